/- Printed by gen.py, a program of this claim: what each Go function computes. -/
import Derived.Test.YtnpccifddodjlaaGa
set_option maxRecDepth 100000
set_option linter.unusedVariables false
namespace OT
open Go
namespace spec_l10Key
/-! loop example g00408 spec l10Key -/
abbrev Arg : Type := Key × Unit
abbrev Out : Type := Bool × Unit
noncomputable def ps : List (PM × Ty) := [(.ro, (.ptr tKey))]
noncomputable def rs : List (Ty × Md) := [(.bool, (roMd .bool))]
noncomputable def E : Env := { TI := lookN [(2, i64), (214, tKey)], G := lookN [(90, spec_l1In.sig)], fz := [], lv := [], lx := [], lf := [], od := [] }
noncomputable def sem (a : Arg) : Option Out := lift fun k => bodyK E k Go.Proofs.Try.f265 ps rs [] [] a
noncomputable def sig : Sig := { ps := ps, rs := rs, F := fun a => sem a }
noncomputable def C : Code := bodyOf Go.Proofs.Try.f265
noncomputable def fin : St → Option Out := outK ps rs [] (Func.results Go.Proofs.Try.f265).toList (mvs [])
noncomputable def K0 : Ex → St → Option Out := endK fin
noncomputable def p (a1 : Arg) : Option Out := (spec_l1In.sem (a1.1.1, (0 : Int), (3 : Int), ())).bind fun r2 => bif r2.1 then ((spec_l1In.sem (a1.1.2.1, (1 : Int), (99 : Int), ())).bind fun r3 => some (r3.1, ())) else some (false, ())
noncomputable def raw (k : Nat) (a1 : Arg) : Option Out := p a1
theorem p_eq (k : Nat) (a1 : Arg) : bodyK E k Go.Proofs.Try.f265 ps rs [] [] a1 = p a1 := by kernel_rfl
theorem raw_eq (k : Nat) (a1 : Arg) : bodyK E k Go.Proofs.Try.f265 ps rs [] [] a1 = raw k a1 := (p_eq k a1).trans (by rfl)
theorem ent : EnterOk Go.Proofs.Try.prog 265 sig.cap := ⟨Go.Proofs.Try.f265, Go.Proofs.Try.func265, by kernel_rfl, by kernel_rfl, by kernel_rfl⟩
theorem env : EnvOk Go.Proofs.Try.prog E := env_ok (tl := [(2, i64), (214, tKey)]) (gl := [(90, spec_l1In.sig)]) rfl rfl (by kernel_rfl) (by kernel_rfl) (fn_cons spec_l1In.snd spec_l1In.ent (fn_nil _))
theorem chk : funOk Go.Proofs.Try.prog E Go.Proofs.Try.f265 ps rs [] = true := by kernel_rfl
theorem snd : Sound Go.Proofs.Try.prog 265 sig := sound_of_body env Go.Proofs.Try.func265 rfl (es := []) (fr := []) chk (fun _ _ h => lift_some h)
end spec_l10Key
namespace spec_l10Marks
/-! loop example g00408 spec l10Marks -/
abbrev Arg : Type := Tx × Unit
abbrev Out : Type := Int × Unit
noncomputable def ps : List (PM × Ty) := [(.ro, (.ptr tTx))]
noncomputable def rs : List (Ty × Md) := [(i64, (roMd i64))]
noncomputable def E : Env := { TI := lookN [(2, i64), (141, (.slc tChange)), (205, (.slc i64)), (214, tKey), (218, (.slc tKey)), (220, tTx)], G := lookN [(90, spec_l1In.sig), (265, spec_l10Key.sig)], fz := [], lv := [(4, [0, 3]), (9, [0, 4]), (14, [0, 4, 5])], lx := [(0, [0]), (2, []), (4, [0, 4])], lf := [], od := [(6, [0, 1, 2, 3, 4, 5, 6, 7, 8, 9, 10, 11, 12, 13, 14, 15, 16, 17, 18, 19, 20, 21, 22, 23, 24, 25, 26, 27, 28, 29, 30, 31, 32, 33, 34, 35]), (16, [0, 1, 2, 3, 4, 5, 6, 7, 8, 9, 10, 11, 12, 13, 14])], ar := [(6, [3, 6, 10, 21, 24, 28, 32])] }
noncomputable def sem (a : Arg) : Option Out := lift fun k => bodyK E k Go.Proofs.Try.f227 ps rs [] [] a
noncomputable def sig : Sig := { ps := ps, rs := rs, F := fun a => sem a }
noncomputable def C : Code := bodyOf Go.Proofs.Try.f227
noncomputable def fin : St → Option Out := outK ps rs [] (Func.results Go.Proofs.Try.f227).toList (mvs [])
noncomputable def K0 : Ex → St → Option Out := endK fin
noncomputable def S0 (rec : St → Option Out) (a1 : Arg) : (Int) → Option Out := fun v402 => rec ({ n := 102, sl := [(0, .cp tTx a1.1), (3, .val i64 v402)], vr := [], lent := [] })
noncomputable def X0_0 (K : Ex → St → Option Out) (a1 : Arg) : (Unit) → Option Out := fun z => K (.exit 0) ({ n := 102, sl := [(0, .cp tTx a1.1)], vr := [], lent := [] })
noncomputable def b0 (self : Int → Option Out) (e0 : (Unit) → Option Out) (a1 : Arg) (v402 : Int) : Option Out := bif decide (v402 < (a1.1.2.2.1.length : Int)) then (if 0 ≤ v402 then ((a1.1.2.2.1[v402.toNat]?).bind fun x603 => (spec_l1In.sem (x603, (0 : Int), (a1.1.2.1.length : Int), ())).bind fun r604 => bif !r604.1 then (some ((3 : Int), ())) else bif decide ((0 : Int) < v402) then (if 0 ≤ v402 then ((a1.1.2.2.1[v402.toNat]?).bind fun x605 => if 0 ≤ w64 (v402 - (1 : Int)) then ((a1.1.2.2.1[(w64 (v402 - (1 : Int))).toNat]?).bind fun x606 => bif decide (x605 < x606) then (some ((3 : Int), ())) else self (w64 (v402 + (1 : Int)))) else none) else none) else self (w64 (v402 + (1 : Int)))) else none) else e0 ()
noncomputable def B0 (k : Nat) (self : Int → Option Out) (e0 : (Unit) → Option Out) (a1 : Arg) (v402 : Int) : Option Out := b0 self e0 a1 v402
theorem b0_eq (k : Nat) (rec : St → Option Out) (K : Ex → St → Option Out) (a1 : Arg) (v402 : Int) : codeK E k fin (sub [1, 1, 0, 1, 0, 0] C) ({ n := 102, sl := [(0, .cp tTx a1.1), (3, .val i64 v402)], vr := [], lent := [] }) (loopC rec (keepF [0, 3] []) K) = b0 (S0 rec a1) (X0_0 K a1) a1 v402 := by kernel_rfl
theorem B0_eq (k : Nat) (rec : St → Option Out) (K : Ex → St → Option Out) (a1 : Arg) (v402 : Int) : codeK E k fin (sub [1, 1, 0, 1, 0, 0] C) ({ n := 102, sl := [(0, .cp tTx a1.1), (3, .val i64 v402)], vr := [], lent := [] }) (loopC rec (keepF [0, 3] []) K) = B0 k (S0 rec a1) (X0_0 K a1) a1 v402 := (b0_eq k rec K a1 v402).trans (by rfl)
noncomputable def l0 (k : Nat) (a1 : Arg) (e0 : (Unit) → Option Out) (v : Int) : Option Out := rawIter (fun self v => B0 k self e0 a1 v) k v
theorem l0_eq (k : Nat) (K : Ex → St → Option Out) (a1 : Arg) (v402 : Int) : iterK (codeK E k fin (sub [1, 1, 0, 1, 0, 0] C)) (keepF [0, 3] []) K k ({ n := 102, sl := [(0, .cp tTx a1.1), (3, .val i64 v402)], vr := [], lent := [] }) = l0 k a1 (X0_0 K a1) v402 :=
  iter_raw _ _ K (fun v402 => ({ n := 102, sl := [(0, .cp tTx a1.1), (3, .val i64 v402)], vr := [], lent := [] } : St)) (fun self v => B0 k self (X0_0 K a1) a1 v) (fun rec v => B0_eq k rec K a1 v) k v402
noncomputable def S1 (rec : St → Option Out) (a1 : Arg) : (Tx × Int) → Option Out := fun v1008 => rec ({ n := 102, sl := [(0, .cp tTx v1008.1), (4, .val i64 v1008.2)], vr := [], lent := [] })
noncomputable def X1_2 (K : Ex → St → Option Out) (a1 : Arg) : (Unit) → Option Out := fun z => K (.exit 2) ({ n := 102, sl := [], vr := [], lent := [] })
noncomputable def S2 (rec : St → Option Out) (a1 : Arg) (c1612 : Tx) (c1613 : Int) : (Int) → Option Out := fun v1611 => rec ({ n := 102, sl := [(0, .cp tTx c1612), (4, .val i64 c1613), (5, .val i64 v1611)], vr := [], lent := [] })
noncomputable def X2_4 (K : Ex → St → Option Out) (a1 : Arg) (c1612 : Tx) (c1613 : Int) : (Unit) → Option Out := fun z => K (.exit 4) ({ n := 102, sl := [(0, .cp tTx c1612), (4, .val i64 c1613)], vr := [], lent := [] })
noncomputable def b2 (self : Int → Option Out) (e4 : (Unit) → Option Out) (a1 : Arg) (c1612 : Tx) (c1613 : Int) (v1611 : Int) : Option Out := bif decide (v1611 < c1613) then (if 0 ≤ v1611 then ((c1612.2.2.2.1[v1611.toNat]?).bind fun x1814 => if 0 ≤ c1613 then ((c1612.2.2.2.1[c1613.toNat]?).bind fun x1815 => bif (Ty.eq tKey x1814 x1815) then (some ((6 : Int), ())) else self (w64 (v1611 + (1 : Int)))) else none) else none) else e4 ()
noncomputable def B2 (k : Nat) (self : Int → Option Out) (e4 : (Unit) → Option Out) (a1 : Arg) (c1612 : Tx) (c1613 : Int) (v1611 : Int) : Option Out := b2 self e4 a1 c1612 c1613 v1611
theorem b2_eq (k : Nat) (rec : St → Option Out) (K : Ex → St → Option Out) (a1 : Arg) (c1612 : Tx) (c1613 : Int) (v1611 : Int) : codeK E k fin (sub [1, 1, 1, 0, 1, 0, 0, 1, 0, 0, 1, 1, 0, 0] C) ({ n := 102, sl := [(0, .cp tTx c1612), (4, .val i64 c1613), (5, .val i64 v1611)], vr := [], lent := [] }) (loopC rec (keepF [0, 4, 5] []) K) = b2 (S2 rec a1 c1612 c1613) (X2_4 K a1 c1612 c1613) a1 c1612 c1613 v1611 := by kernel_rfl
theorem B2_eq (k : Nat) (rec : St → Option Out) (K : Ex → St → Option Out) (a1 : Arg) (c1612 : Tx) (c1613 : Int) (v1611 : Int) : codeK E k fin (sub [1, 1, 1, 0, 1, 0, 0, 1, 0, 0, 1, 1, 0, 0] C) ({ n := 102, sl := [(0, .cp tTx c1612), (4, .val i64 c1613), (5, .val i64 v1611)], vr := [], lent := [] }) (loopC rec (keepF [0, 4, 5] []) K) = B2 k (S2 rec a1 c1612 c1613) (X2_4 K a1 c1612 c1613) a1 c1612 c1613 v1611 := (b2_eq k rec K a1 c1612 c1613 v1611).trans (by rfl)
noncomputable def l2 (k : Nat) (a1 : Arg) (c1612 : Tx) (c1613 : Int) (e4 : (Unit) → Option Out) (v : Int) : Option Out := rawIter (fun self v => B2 k self e4 a1 c1612 c1613 v) k v
theorem l2_eq (k : Nat) (K : Ex → St → Option Out) (a1 : Arg) (c1612 : Tx) (c1613 : Int) (v1611 : Int) : iterK (codeK E k fin (sub [1, 1, 1, 0, 1, 0, 0, 1, 0, 0, 1, 1, 0, 0] C)) (keepF [0, 4, 5] []) K k ({ n := 102, sl := [(0, .cp tTx c1612), (4, .val i64 c1613), (5, .val i64 v1611)], vr := [], lent := [] }) = l2 k a1 c1612 c1613 (X2_4 K a1 c1612 c1613) v1611 :=
  iter_raw _ _ K (fun v1611 => ({ n := 102, sl := [(0, .cp tTx c1612), (4, .val i64 c1613), (5, .val i64 v1611)], vr := [], lent := [] } : St)) (fun self v => B2 k self (X2_4 K a1 c1612 c1613) a1 c1612 c1613 v) (fun rec v => B2_eq k rec K a1 c1612 c1613 v) k v1611
noncomputable def q1 (self : (Tx × Int) → Option Out) (e2 : (Unit) → Option Out) (a1 : Arg) (c1612 : Tx) (c1613 : Int) (z1816 : (Unit)) : Option Out := self (c1612, w64 (c1613 + (1 : Int)))
noncomputable def Q1 (k : Nat) (self : (Tx × Int) → Option Out) (e2 : (Unit) → Option Out) (a1 : Arg) (c1612 : Tx) (c1613 : Int) (z1816 : (Unit)) : Option Out := q1 self e2 a1 c1612 c1613 z1816
theorem q1_eq (k : Nat) (rec : St → Option Out) (K : Ex → St → Option Out) (a1 : Arg) (c1612 : Tx) (c1613 : Int) (z1816 : (Unit)) : (blockC 4 (blockC 3 (seqC (codeK E k fin (sub [1, 1, 1, 0, 1, 0, 0, 1, 1] C)) (loopC rec (keepF [0, 4] []) K)))) (.exit 4) ({ n := 102, sl := [(0, .cp tTx c1612), (4, .val i64 c1613)], vr := [], lent := [] }) = q1 (S1 rec a1) (X1_2 K a1) a1 c1612 c1613 z1816 := by kernel_rfl
theorem Q1_eq (k : Nat) (rec : St → Option Out) (K : Ex → St → Option Out) (a1 : Arg) (c1612 : Tx) (c1613 : Int) (z1816 : (Unit)) : (blockC 4 (blockC 3 (seqC (codeK E k fin (sub [1, 1, 1, 0, 1, 0, 0, 1, 1] C)) (loopC rec (keepF [0, 4] []) K)))) (.exit 4) ({ n := 102, sl := [(0, .cp tTx c1612), (4, .val i64 c1613)], vr := [], lent := [] }) = Q1 k (S1 rec a1) (X1_2 K a1) a1 c1612 c1613 z1816 := (q1_eq k rec K a1 c1612 c1613 z1816).trans (by rfl)
noncomputable def s2 (k : Nat) (rec : St → Option Out) (K : Ex → St → Option Out) (a1 : Arg) : Tx → Int → (Int) → Option Out := fun c1612 c1613 v1611 => iterK (codeK E k fin (sub [1, 1, 1, 0, 1, 0, 0, 1, 0, 0, 1, 1, 0, 0] C)) (keepF [0, 4, 5] []) (blockC 4 (blockC 3 (seqC (codeK E k fin (sub [1, 1, 1, 0, 1, 0, 0, 1, 1] C)) (loopC rec (keepF [0, 4] []) K)))) k ({ n := 102, sl := [(0, .cp tTx c1612), (4, .val i64 c1613), (5, .val i64 v1611)], vr := [], lent := [] })
noncomputable def r2 (k : Nat) (self : (Tx × Int) → Option Out) (e2 : (Unit) → Option Out) (a1 : Arg) : Tx → Int → (Int) → Option Out := fun c1612 c1613 v1611 => l2 k a1 c1612 c1613 (fun z => Q1 k self e2 a1 c1612 c1613 z) v1611
theorem s2_eq (k : Nat) (rec : St → Option Out) (K : Ex → St → Option Out) (a1 : Arg) : s2 k rec K a1 = r2 k (S1 rec a1) (X1_2 K a1) a1 := by
  funext c1612; funext c1613; funext v1611;
  have h4 : X2_4 ((blockC 4 (blockC 3 (seqC (codeK E k fin (sub [1, 1, 1, 0, 1, 0, 0, 1, 1] C)) (loopC rec (keepF [0, 4] []) K))))) a1 c1612 c1613 = fun z => Q1 k (S1 rec a1) (X1_2 K a1) a1 c1612 c1613 z := funext fun z => Q1_eq k rec K a1 c1612 c1613 z
  refine (l2_eq k ((blockC 4 (blockC 3 (seqC (codeK E k fin (sub [1, 1, 1, 0, 1, 0, 0, 1, 1] C)) (loopC rec (keepF [0, 4] []) K))))) a1 c1612 c1613 v1611).trans ?_
  rw [h4]
  rfl
noncomputable def b1 (self : (Tx × Int) → Option Out) (e2 : (Unit) → Option Out) (l2 : Tx → Int → (Int) → Option Out) (a1 : Arg) (v1008 : Tx × Int) : Option Out := bif decide (v1008.2 < (v1008.1.2.2.2.1.length : Int)) then (if 0 ≤ v1008.2 then ((v1008.1.2.2.2.1[v1008.2.toNat]?).bind fun x1209 => (spec_l10Key.sem (x1209, ())).bind fun r1210 => bif !r1210.1 then (some ((3 : Int), ())) else l2 v1008.1 v1008.2 (0 : Int)) else none) else e2 ()
noncomputable def B1 (k : Nat) (self : (Tx × Int) → Option Out) (e2 : (Unit) → Option Out) (a1 : Arg) (v1008 : Tx × Int) : Option Out := b1 self e2 (r2 k self e2 a1) a1 v1008
theorem b1_eq (k : Nat) (rec : St → Option Out) (K : Ex → St → Option Out) (a1 : Arg) (v1008 : Tx × Int) : codeK E k fin (sub [1, 1, 1, 0, 1, 0, 0] C) ({ n := 102, sl := [(0, .cp tTx v1008.1), (4, .val i64 v1008.2)], vr := [], lent := [] }) (loopC rec (keepF [0, 4] []) K) = b1 (S1 rec a1) (X1_2 K a1) (s2 k rec K a1) a1 v1008 := by kernel_rfl
theorem B1_eq (k : Nat) (rec : St → Option Out) (K : Ex → St → Option Out) (a1 : Arg) (v1008 : Tx × Int) : codeK E k fin (sub [1, 1, 1, 0, 1, 0, 0] C) ({ n := 102, sl := [(0, .cp tTx v1008.1), (4, .val i64 v1008.2)], vr := [], lent := [] }) (loopC rec (keepF [0, 4] []) K) = B1 k (S1 rec a1) (X1_2 K a1) a1 v1008 := (b1_eq k rec K a1 v1008).trans (by rw [s2_eq]; rfl)
noncomputable def l1 (k : Nat) (a1 : Arg) (e2 : (Unit) → Option Out) (v : Tx × Int) : Option Out := rawIter (fun self v => B1 k self e2 a1 v) k v
theorem l1_eq (k : Nat) (K : Ex → St → Option Out) (a1 : Arg) (v1008 : Tx × Int) : iterK (codeK E k fin (sub [1, 1, 1, 0, 1, 0, 0] C)) (keepF [0, 4] []) K k ({ n := 102, sl := [(0, .cp tTx v1008.1), (4, .val i64 v1008.2)], vr := [], lent := [] }) = l1 k a1 (X1_2 K a1) v1008 :=
  iter_raw _ _ K (fun v1008 => ({ n := 102, sl := [(0, .cp tTx v1008.1), (4, .val i64 v1008.2)], vr := [], lent := [] } : St)) (fun self v => B1 k self (X1_2 K a1) a1 v) (fun rec v => B1_eq k rec K a1 v) k v1008
noncomputable def q2 (a1 : Arg) (z1817 : (Unit)) : Option Out := some ((0 : Int), ())
noncomputable def Q2 (k : Nat) (a1 : Arg) (z1817 : (Unit)) : Option Out := q2 a1 z1817
theorem q2_eq (k : Nat) (a1 : Arg) (z1817 : (Unit)) : (blockC 2 (seqC (codeK E k fin (sub [1, 1, 1, 1] C)) K0)) (.exit 2) ({ n := 102, sl := [], vr := [], lent := [] }) = q2 a1 z1817 := by kernel_rfl
theorem Q2_eq (k : Nat) (a1 : Arg) (z1817 : (Unit)) : (blockC 2 (seqC (codeK E k fin (sub [1, 1, 1, 1] C)) K0)) (.exit 2) ({ n := 102, sl := [], vr := [], lent := [] }) = Q2 k a1 z1817 := (q2_eq k a1 z1817).trans (by rfl)
noncomputable def s1 (k : Nat) (a1 : Arg) : (Tx × Int) → Option Out := fun v1008 => iterK (codeK E k fin (sub [1, 1, 1, 0, 1, 0, 0] C)) (keepF [0, 4] []) (blockC 2 (seqC (codeK E k fin (sub [1, 1, 1, 1] C)) K0)) k ({ n := 102, sl := [(0, .cp tTx v1008.1), (4, .val i64 v1008.2)], vr := [], lent := [] })
noncomputable def r1 (k : Nat) (a1 : Arg) : (Tx × Int) → Option Out := fun v1008 => l1 k a1 (fun z => Q2 k a1 z) v1008
theorem s1_eq (k : Nat) (a1 : Arg) : s1 k a1 = r1 k a1 := by
  funext v1008;
  have h2 : X1_2 ((blockC 2 (seqC (codeK E k fin (sub [1, 1, 1, 1] C)) K0))) a1 = fun z => Q2 k a1 z := funext fun z => Q2_eq k a1 z
  refine (l1_eq k ((blockC 2 (seqC (codeK E k fin (sub [1, 1, 1, 1] C)) K0))) a1 v1008).trans ?_
  rw [h2]
  rfl
noncomputable def q0 (l1 : (Tx × Int) → Option Out) (a1 : Arg) (z607 : (Unit)) : Option Out := l1 (a1.1, (0 : Int))
noncomputable def Q0 (k : Nat) (a1 : Arg) (z607 : (Unit)) : Option Out := q0 (r1 k a1) a1 z607
theorem q0_eq (k : Nat) (a1 : Arg) (z607 : (Unit)) : (blockC 0 (seqC (codeK E k fin (sub [1, 1, 1] C)) K0)) (.exit 0) ({ n := 102, sl := [(0, .cp tTx a1.1)], vr := [], lent := [] }) = q0 (s1 k a1) a1 z607 := by kernel_rfl
theorem Q0_eq (k : Nat) (a1 : Arg) (z607 : (Unit)) : (blockC 0 (seqC (codeK E k fin (sub [1, 1, 1] C)) K0)) (.exit 0) ({ n := 102, sl := [(0, .cp tTx a1.1)], vr := [], lent := [] }) = Q0 k a1 z607 := (q0_eq k a1 z607).trans (by rw [s1_eq]; rfl)
noncomputable def s0 (k : Nat) (a1 : Arg) : (Int) → Option Out := fun v402 => iterK (codeK E k fin (sub [1, 1, 0, 1, 0, 0] C)) (keepF [0, 3] []) (blockC 0 (seqC (codeK E k fin (sub [1, 1, 1] C)) K0)) k ({ n := 102, sl := [(0, .cp tTx a1.1), (3, .val i64 v402)], vr := [], lent := [] })
noncomputable def r0 (k : Nat) (a1 : Arg) : (Int) → Option Out := fun v402 => l0 k a1 (fun z => Q0 k a1 z) v402
theorem s0_eq (k : Nat) (a1 : Arg) : s0 k a1 = r0 k a1 := by
  funext v402;
  have h0 : X0_0 ((blockC 0 (seqC (codeK E k fin (sub [1, 1, 1] C)) K0))) a1 = fun z => Q0 k a1 z := funext fun z => Q0_eq k a1 z
  refine (l0_eq k ((blockC 0 (seqC (codeK E k fin (sub [1, 1, 1] C)) K0))) a1 v402).trans ?_
  rw [h0]
  rfl
noncomputable def p (l0 : (Int) → Option Out) (a1 : Arg) : Option Out := bif decide ((8 : Int) < (a1.1.2.2.1.length : Int)) then (some ((2 : Int), ())) else bif decide ((12 : Int) < (a1.1.2.2.2.1.length : Int)) then (some ((2 : Int), ())) else l0 (0 : Int)
noncomputable def raw (k : Nat) (a1 : Arg) : Option Out := p (r0 k a1) a1
theorem p_eq (k : Nat) (a1 : Arg) : bodyK E k Go.Proofs.Try.f227 ps rs [] [] a1 = p (s0 k a1) a1 := by kernel_rfl
theorem raw_eq (k : Nat) (a1 : Arg) : bodyK E k Go.Proofs.Try.f227 ps rs [] [] a1 = raw k a1 := (p_eq k a1).trans (by rw [s0_eq]; rfl)
theorem ent : EnterOk Go.Proofs.Try.prog 227 sig.cap := ⟨Go.Proofs.Try.f227, Go.Proofs.Try.func227, by kernel_rfl, by kernel_rfl, by kernel_rfl⟩
theorem env : EnvOk Go.Proofs.Try.prog E := env_ok (tl := [(2, i64), (141, (.slc tChange)), (205, (.slc i64)), (214, tKey), (218, (.slc tKey)), (220, tTx)]) (gl := [(90, spec_l1In.sig), (265, spec_l10Key.sig)]) rfl rfl (by kernel_rfl) (by kernel_rfl) (fn_cons spec_l1In.snd spec_l1In.ent (fn_cons spec_l10Key.snd spec_l10Key.ent (fn_nil _)))
theorem chk : funOk Go.Proofs.Try.prog E Go.Proofs.Try.f227 ps rs [] = true := by kernel_rfl
theorem snd : Sound Go.Proofs.Try.prog 227 sig := sound_of_body env Go.Proofs.Try.func227 rfl (es := []) (fr := []) chk (fun _ _ h => lift_some h)
end spec_l10Marks
namespace spec_l10Lock
/-! loop example g00408 spec l10Lock -/
abbrev Arg : Type := (List Tx) × Key × Unit
abbrev Out : Type := Int × Unit
noncomputable def ps : List (PM × Ty) := [(.ro, (.slc tTx)), (.ro, tKey)]
noncomputable def rs : List (Ty × Md) := [(i64, (roMd i64))]
noncomputable def E : Env := { TI := lookN [(2, i64), (29, (.slc tTx)), (214, tKey), (220, tTx)], G := lookN [(164, spec_l10Locks.sig)], fz := [], lv := [(2, [0, 3, 5])], lx := [(0, [])], lf := [], od := [(4, [0, 1, 2, 3, 4])] }
noncomputable def sem (a : Arg) : Option Out := lift fun k => bodyK E k Go.Proofs.Try.f162 ps rs [] [] a
noncomputable def sig : Sig := { ps := ps, rs := rs, F := fun a => sem a }
noncomputable def C : Code := bodyOf Go.Proofs.Try.f162
noncomputable def fin : St → Option Out := outK ps rs [] (Func.results Go.Proofs.Try.f162).toList (mvs [])
noncomputable def K0 : Ex → St → Option Out := endK fin
noncomputable def S0 (rec : St → Option Out) (a1 : Arg) : (Int) → Option Out := fun v402 => rec ({ n := 22, sl := [(0, .val (.slc tTx) a1.1), (3, .box tKey (roMd tKey) [] a1.2.1), (5, .val i64 v402)], vr := [], lent := [] })
noncomputable def X0_0 (K : Ex → St → Option Out) (a1 : Arg) : (Unit) → Option Out := fun z => K (.exit 0) ({ n := 22, sl := [], vr := [], lent := [] })
noncomputable def b0 (self : Int → Option Out) (e0 : (Unit) → Option Out) (a1 : Arg) (v402 : Int) : Option Out := bif decide (v402 < (a1.1.length : Int)) then (if 0 ≤ v402 then ((a1.1[v402.toNat]?).bind fun x603 => (spec_l10Locks.sem (x603, a1.2.1, ())).bind fun r604 => bif r604.1 then (if 0 ≤ v402 then ((a1.1[v402.toNat]?).bind fun x605 => some (x605.1, ())) else none) else self (w64 (v402 + (1 : Int)))) else none) else e0 ()
noncomputable def B0 (k : Nat) (self : Int → Option Out) (e0 : (Unit) → Option Out) (a1 : Arg) (v402 : Int) : Option Out := b0 self e0 a1 v402
theorem b0_eq (k : Nat) (rec : St → Option Out) (K : Ex → St → Option Out) (a1 : Arg) (v402 : Int) : codeK E k fin (sub [1, 0, 1, 0, 0] C) ({ n := 22, sl := [(0, .val (.slc tTx) a1.1), (3, .box tKey (roMd tKey) [] a1.2.1), (5, .val i64 v402)], vr := [], lent := [] }) (loopC rec (keepF [0, 3, 5] []) K) = b0 (S0 rec a1) (X0_0 K a1) a1 v402 := by kernel_rfl
theorem B0_eq (k : Nat) (rec : St → Option Out) (K : Ex → St → Option Out) (a1 : Arg) (v402 : Int) : codeK E k fin (sub [1, 0, 1, 0, 0] C) ({ n := 22, sl := [(0, .val (.slc tTx) a1.1), (3, .box tKey (roMd tKey) [] a1.2.1), (5, .val i64 v402)], vr := [], lent := [] }) (loopC rec (keepF [0, 3, 5] []) K) = B0 k (S0 rec a1) (X0_0 K a1) a1 v402 := (b0_eq k rec K a1 v402).trans (by rfl)
noncomputable def l0 (k : Nat) (a1 : Arg) (e0 : (Unit) → Option Out) (v : Int) : Option Out := rawIter (fun self v => B0 k self e0 a1 v) k v
theorem l0_eq (k : Nat) (K : Ex → St → Option Out) (a1 : Arg) (v402 : Int) : iterK (codeK E k fin (sub [1, 0, 1, 0, 0] C)) (keepF [0, 3, 5] []) K k ({ n := 22, sl := [(0, .val (.slc tTx) a1.1), (3, .box tKey (roMd tKey) [] a1.2.1), (5, .val i64 v402)], vr := [], lent := [] }) = l0 k a1 (X0_0 K a1) v402 :=
  iter_raw _ _ K (fun v402 => ({ n := 22, sl := [(0, .val (.slc tTx) a1.1), (3, .box tKey (roMd tKey) [] a1.2.1), (5, .val i64 v402)], vr := [], lent := [] } : St)) (fun self v => B0 k self (X0_0 K a1) a1 v) (fun rec v => B0_eq k rec K a1 v) k v402
noncomputable def q0 (a1 : Arg) (z606 : (Unit)) : Option Out := some ((0 : Int), ())
noncomputable def Q0 (k : Nat) (a1 : Arg) (z606 : (Unit)) : Option Out := q0 a1 z606
theorem q0_eq (k : Nat) (a1 : Arg) (z606 : (Unit)) : (blockC 0 (seqC (codeK E k fin (sub [1, 1] C)) K0)) (.exit 0) ({ n := 22, sl := [], vr := [], lent := [] }) = q0 a1 z606 := by kernel_rfl
theorem Q0_eq (k : Nat) (a1 : Arg) (z606 : (Unit)) : (blockC 0 (seqC (codeK E k fin (sub [1, 1] C)) K0)) (.exit 0) ({ n := 22, sl := [], vr := [], lent := [] }) = Q0 k a1 z606 := (q0_eq k a1 z606).trans (by rfl)
noncomputable def s0 (k : Nat) (a1 : Arg) : (Int) → Option Out := fun v402 => iterK (codeK E k fin (sub [1, 0, 1, 0, 0] C)) (keepF [0, 3, 5] []) (blockC 0 (seqC (codeK E k fin (sub [1, 1] C)) K0)) k ({ n := 22, sl := [(0, .val (.slc tTx) a1.1), (3, .box tKey (roMd tKey) [] a1.2.1), (5, .val i64 v402)], vr := [], lent := [] })
noncomputable def r0 (k : Nat) (a1 : Arg) : (Int) → Option Out := fun v402 => l0 k a1 (fun z => Q0 k a1 z) v402
theorem s0_eq (k : Nat) (a1 : Arg) : s0 k a1 = r0 k a1 := by
  funext v402;
  have h0 : X0_0 ((blockC 0 (seqC (codeK E k fin (sub [1, 1] C)) K0))) a1 = fun z => Q0 k a1 z := funext fun z => Q0_eq k a1 z
  refine (l0_eq k ((blockC 0 (seqC (codeK E k fin (sub [1, 1] C)) K0))) a1 v402).trans ?_
  rw [h0]
  rfl
noncomputable def p (l0 : (Int) → Option Out) (a1 : Arg) : Option Out := l0 (0 : Int)
noncomputable def raw (k : Nat) (a1 : Arg) : Option Out := p (r0 k a1) a1
theorem p_eq (k : Nat) (a1 : Arg) : bodyK E k Go.Proofs.Try.f162 ps rs [] [] a1 = p (s0 k a1) a1 := by kernel_rfl
theorem raw_eq (k : Nat) (a1 : Arg) : bodyK E k Go.Proofs.Try.f162 ps rs [] [] a1 = raw k a1 := (p_eq k a1).trans (by rw [s0_eq]; rfl)
theorem ent : EnterOk Go.Proofs.Try.prog 162 sig.cap := ⟨Go.Proofs.Try.f162, Go.Proofs.Try.func162, by kernel_rfl, by kernel_rfl, by kernel_rfl⟩
theorem env : EnvOk Go.Proofs.Try.prog E := env_ok (tl := [(2, i64), (29, (.slc tTx)), (214, tKey), (220, tTx)]) (gl := [(164, spec_l10Locks.sig)]) rfl rfl (by kernel_rfl) (by kernel_rfl) (fn_cons spec_l10Locks.snd spec_l10Locks.ent (fn_nil _))
theorem chk : funOk Go.Proofs.Try.prog E Go.Proofs.Try.f162 ps rs [] = true := by kernel_rfl
theorem snd : Sound Go.Proofs.Try.prog 162 sig := sound_of_body env Go.Proofs.Try.func162 rfl (es := []) (fr := []) chk (fun _ _ h => lift_some h)
end spec_l10Lock
namespace spec_l10Apart
/-! loop example g00408 spec l10Apart -/
abbrev Arg : Type := (List Tx) × Unit
abbrev Out : Type := Bool × Unit
noncomputable def ps : List (PM × Ty) := [(.ro, (.slc tTx))]
noncomputable def rs : List (Ty × Md) := [(.bool, (roMd .bool))]
noncomputable def E : Env := { TI := lookN [(2, i64), (29, (.slc tTx)), (214, tKey), (218, (.slc tKey)), (220, tTx)], G := lookN [(162, spec_l10Lock.sig)], fz := [], lv := [(2, [0, 3]), (5, [0, 3, 4])], lx := [(0, []), (2, [0, 3])], lf := [], od := [(7, [0, 1, 2, 3, 4, 5, 6, 7, 8, 10, 11, 12, 13, 14, 9, 15])] }
noncomputable def sem (a : Arg) : Option Out := lift fun k => bodyK E k Go.Proofs.Try.f228 ps rs [] [] a
noncomputable def sig : Sig := { ps := ps, rs := rs, F := fun a => sem a }
noncomputable def C : Code := bodyOf Go.Proofs.Try.f228
noncomputable def fin : St → Option Out := outK ps rs [] (Func.results Go.Proofs.Try.f228).toList (mvs [])
noncomputable def K0 : Ex → St → Option Out := endK fin
noncomputable def S0 (rec : St → Option Out) (a1 : Arg) : ((List Tx) × Int) → Option Out := fun v402 => rec ({ n := 37, sl := [(0, .val (.slc tTx) v402.1), (3, .val i64 v402.2)], vr := [], lent := [] })
noncomputable def X0_0 (K : Ex → St → Option Out) (a1 : Arg) : (Unit) → Option Out := fun z => K (.exit 0) ({ n := 37, sl := [], vr := [], lent := [] })
noncomputable def S1 (rec : St → Option Out) (a1 : Arg) (c1004 : List Tx) (c1005 : Int) : (Int) → Option Out := fun v1003 => rec ({ n := 37, sl := [(0, .val (.slc tTx) c1004), (3, .val i64 c1005), (4, .val i64 v1003)], vr := [], lent := [] })
noncomputable def X1_2 (K : Ex → St → Option Out) (a1 : Arg) (c1004 : List Tx) (c1005 : Int) : (Unit) → Option Out := fun z => K (.exit 2) ({ n := 37, sl := [(0, .val (.slc tTx) c1004), (3, .val i64 c1005)], vr := [], lent := [] })
noncomputable def b1 (self : Int → Option Out) (e2 : (Unit) → Option Out) (a1 : Arg) (c1004 : List Tx) (c1005 : Int) (v1003 : Int) : Option Out := if 0 ≤ c1005 then ((c1004[c1005.toNat]?).bind fun x1206 => bif decide (v1003 < (x1206.2.2.2.1.length : Int)) then (if 0 ≤ c1005 then ((c1004[c1005.toNat]?).bind fun x1207 => if 0 ≤ v1003 then ((x1207.2.2.2.1[v1003.toNat]?).bind fun x1208 => if 0 ≤ c1005 then ((c1004[c1005.toNat]?).bind fun x1209 => (spec_l10Lock.sem (c1004, x1208, ())).bind fun r1210 => bif !decide (r1210.1 = x1209.1) then (some (false, ())) else self (w64 (v1003 + (1 : Int)))) else none) else none) else none) else e2 ()) else none
noncomputable def B1 (k : Nat) (self : Int → Option Out) (e2 : (Unit) → Option Out) (a1 : Arg) (c1004 : List Tx) (c1005 : Int) (v1003 : Int) : Option Out := b1 self e2 a1 c1004 c1005 v1003
theorem b1_eq (k : Nat) (rec : St → Option Out) (K : Ex → St → Option Out) (a1 : Arg) (c1004 : List Tx) (c1005 : Int) (v1003 : Int) : codeK E k fin (sub [1, 0, 1, 0, 0, 1, 0, 0, 1, 0, 0] C) ({ n := 37, sl := [(0, .val (.slc tTx) c1004), (3, .val i64 c1005), (4, .val i64 v1003)], vr := [], lent := [] }) (loopC rec (keepF [0, 3, 4] []) K) = b1 (S1 rec a1 c1004 c1005) (X1_2 K a1 c1004 c1005) a1 c1004 c1005 v1003 := by kernel_rfl
theorem B1_eq (k : Nat) (rec : St → Option Out) (K : Ex → St → Option Out) (a1 : Arg) (c1004 : List Tx) (c1005 : Int) (v1003 : Int) : codeK E k fin (sub [1, 0, 1, 0, 0, 1, 0, 0, 1, 0, 0] C) ({ n := 37, sl := [(0, .val (.slc tTx) c1004), (3, .val i64 c1005), (4, .val i64 v1003)], vr := [], lent := [] }) (loopC rec (keepF [0, 3, 4] []) K) = B1 k (S1 rec a1 c1004 c1005) (X1_2 K a1 c1004 c1005) a1 c1004 c1005 v1003 := (b1_eq k rec K a1 c1004 c1005 v1003).trans (by rfl)
noncomputable def l1 (k : Nat) (a1 : Arg) (c1004 : List Tx) (c1005 : Int) (e2 : (Unit) → Option Out) (v : Int) : Option Out := rawIter (fun self v => B1 k self e2 a1 c1004 c1005 v) k v
theorem l1_eq (k : Nat) (K : Ex → St → Option Out) (a1 : Arg) (c1004 : List Tx) (c1005 : Int) (v1003 : Int) : iterK (codeK E k fin (sub [1, 0, 1, 0, 0, 1, 0, 0, 1, 0, 0] C)) (keepF [0, 3, 4] []) K k ({ n := 37, sl := [(0, .val (.slc tTx) c1004), (3, .val i64 c1005), (4, .val i64 v1003)], vr := [], lent := [] }) = l1 k a1 c1004 c1005 (X1_2 K a1 c1004 c1005) v1003 :=
  iter_raw _ _ K (fun v1003 => ({ n := 37, sl := [(0, .val (.slc tTx) c1004), (3, .val i64 c1005), (4, .val i64 v1003)], vr := [], lent := [] } : St)) (fun self v => B1 k self (X1_2 K a1 c1004 c1005) a1 c1004 c1005 v) (fun rec v => B1_eq k rec K a1 c1004 c1005 v) k v1003
noncomputable def q0 (self : ((List Tx) × Int) → Option Out) (e0 : (Unit) → Option Out) (a1 : Arg) (c1004 : List Tx) (c1005 : Int) (z1211 : (Unit)) : Option Out := self (c1004, w64 (c1005 + (1 : Int)))
noncomputable def Q0 (k : Nat) (self : ((List Tx) × Int) → Option Out) (e0 : (Unit) → Option Out) (a1 : Arg) (c1004 : List Tx) (c1005 : Int) (z1211 : (Unit)) : Option Out := q0 self e0 a1 c1004 c1005 z1211
theorem q0_eq (k : Nat) (rec : St → Option Out) (K : Ex → St → Option Out) (a1 : Arg) (c1004 : List Tx) (c1005 : Int) (z1211 : (Unit)) : (blockC 2 (blockC 1 (seqC (codeK E k fin (sub [1, 0, 1, 0, 0, 1, 1] C)) (loopC rec (keepF [0, 3] []) K)))) (.exit 2) ({ n := 37, sl := [(0, .val (.slc tTx) c1004), (3, .val i64 c1005)], vr := [], lent := [] }) = q0 (S0 rec a1) (X0_0 K a1) a1 c1004 c1005 z1211 := by kernel_rfl
theorem Q0_eq (k : Nat) (rec : St → Option Out) (K : Ex → St → Option Out) (a1 : Arg) (c1004 : List Tx) (c1005 : Int) (z1211 : (Unit)) : (blockC 2 (blockC 1 (seqC (codeK E k fin (sub [1, 0, 1, 0, 0, 1, 1] C)) (loopC rec (keepF [0, 3] []) K)))) (.exit 2) ({ n := 37, sl := [(0, .val (.slc tTx) c1004), (3, .val i64 c1005)], vr := [], lent := [] }) = Q0 k (S0 rec a1) (X0_0 K a1) a1 c1004 c1005 z1211 := (q0_eq k rec K a1 c1004 c1005 z1211).trans (by rfl)
noncomputable def s1 (k : Nat) (rec : St → Option Out) (K : Ex → St → Option Out) (a1 : Arg) : (List Tx) → Int → (Int) → Option Out := fun c1004 c1005 v1003 => iterK (codeK E k fin (sub [1, 0, 1, 0, 0, 1, 0, 0, 1, 0, 0] C)) (keepF [0, 3, 4] []) (blockC 2 (blockC 1 (seqC (codeK E k fin (sub [1, 0, 1, 0, 0, 1, 1] C)) (loopC rec (keepF [0, 3] []) K)))) k ({ n := 37, sl := [(0, .val (.slc tTx) c1004), (3, .val i64 c1005), (4, .val i64 v1003)], vr := [], lent := [] })
noncomputable def r1 (k : Nat) (self : ((List Tx) × Int) → Option Out) (e0 : (Unit) → Option Out) (a1 : Arg) : (List Tx) → Int → (Int) → Option Out := fun c1004 c1005 v1003 => l1 k a1 c1004 c1005 (fun z => Q0 k self e0 a1 c1004 c1005 z) v1003
theorem s1_eq (k : Nat) (rec : St → Option Out) (K : Ex → St → Option Out) (a1 : Arg) : s1 k rec K a1 = r1 k (S0 rec a1) (X0_0 K a1) a1 := by
  funext c1004; funext c1005; funext v1003;
  have h2 : X1_2 ((blockC 2 (blockC 1 (seqC (codeK E k fin (sub [1, 0, 1, 0, 0, 1, 1] C)) (loopC rec (keepF [0, 3] []) K))))) a1 c1004 c1005 = fun z => Q0 k (S0 rec a1) (X0_0 K a1) a1 c1004 c1005 z := funext fun z => Q0_eq k rec K a1 c1004 c1005 z
  refine (l1_eq k ((blockC 2 (blockC 1 (seqC (codeK E k fin (sub [1, 0, 1, 0, 0, 1, 1] C)) (loopC rec (keepF [0, 3] []) K))))) a1 c1004 c1005 v1003).trans ?_
  rw [h2]
  rfl
noncomputable def b0 (self : ((List Tx) × Int) → Option Out) (e0 : (Unit) → Option Out) (l1 : (List Tx) → Int → (Int) → Option Out) (a1 : Arg) (v402 : (List Tx) × Int) : Option Out := bif decide (v402.2 < (v402.1.length : Int)) then (l1 v402.1 v402.2 (0 : Int)) else e0 ()
noncomputable def B0 (k : Nat) (self : ((List Tx) × Int) → Option Out) (e0 : (Unit) → Option Out) (a1 : Arg) (v402 : (List Tx) × Int) : Option Out := b0 self e0 (r1 k self e0 a1) a1 v402
theorem b0_eq (k : Nat) (rec : St → Option Out) (K : Ex → St → Option Out) (a1 : Arg) (v402 : (List Tx) × Int) : codeK E k fin (sub [1, 0, 1, 0, 0] C) ({ n := 37, sl := [(0, .val (.slc tTx) v402.1), (3, .val i64 v402.2)], vr := [], lent := [] }) (loopC rec (keepF [0, 3] []) K) = b0 (S0 rec a1) (X0_0 K a1) (s1 k rec K a1) a1 v402 := by kernel_rfl
theorem B0_eq (k : Nat) (rec : St → Option Out) (K : Ex → St → Option Out) (a1 : Arg) (v402 : (List Tx) × Int) : codeK E k fin (sub [1, 0, 1, 0, 0] C) ({ n := 37, sl := [(0, .val (.slc tTx) v402.1), (3, .val i64 v402.2)], vr := [], lent := [] }) (loopC rec (keepF [0, 3] []) K) = B0 k (S0 rec a1) (X0_0 K a1) a1 v402 := (b0_eq k rec K a1 v402).trans (by rw [s1_eq]; rfl)
noncomputable def l0 (k : Nat) (a1 : Arg) (e0 : (Unit) → Option Out) (v : (List Tx) × Int) : Option Out := rawIter (fun self v => B0 k self e0 a1 v) k v
theorem l0_eq (k : Nat) (K : Ex → St → Option Out) (a1 : Arg) (v402 : (List Tx) × Int) : iterK (codeK E k fin (sub [1, 0, 1, 0, 0] C)) (keepF [0, 3] []) K k ({ n := 37, sl := [(0, .val (.slc tTx) v402.1), (3, .val i64 v402.2)], vr := [], lent := [] }) = l0 k a1 (X0_0 K a1) v402 :=
  iter_raw _ _ K (fun v402 => ({ n := 37, sl := [(0, .val (.slc tTx) v402.1), (3, .val i64 v402.2)], vr := [], lent := [] } : St)) (fun self v => B0 k self (X0_0 K a1) a1 v) (fun rec v => B0_eq k rec K a1 v) k v402
noncomputable def q1 (a1 : Arg) (z1212 : (Unit)) : Option Out := some (true, ())
noncomputable def Q1 (k : Nat) (a1 : Arg) (z1212 : (Unit)) : Option Out := q1 a1 z1212
theorem q1_eq (k : Nat) (a1 : Arg) (z1212 : (Unit)) : (blockC 0 (seqC (codeK E k fin (sub [1, 1] C)) K0)) (.exit 0) ({ n := 37, sl := [], vr := [], lent := [] }) = q1 a1 z1212 := by kernel_rfl
theorem Q1_eq (k : Nat) (a1 : Arg) (z1212 : (Unit)) : (blockC 0 (seqC (codeK E k fin (sub [1, 1] C)) K0)) (.exit 0) ({ n := 37, sl := [], vr := [], lent := [] }) = Q1 k a1 z1212 := (q1_eq k a1 z1212).trans (by rfl)
noncomputable def s0 (k : Nat) (a1 : Arg) : ((List Tx) × Int) → Option Out := fun v402 => iterK (codeK E k fin (sub [1, 0, 1, 0, 0] C)) (keepF [0, 3] []) (blockC 0 (seqC (codeK E k fin (sub [1, 1] C)) K0)) k ({ n := 37, sl := [(0, .val (.slc tTx) v402.1), (3, .val i64 v402.2)], vr := [], lent := [] })
noncomputable def r0 (k : Nat) (a1 : Arg) : ((List Tx) × Int) → Option Out := fun v402 => l0 k a1 (fun z => Q1 k a1 z) v402
theorem s0_eq (k : Nat) (a1 : Arg) : s0 k a1 = r0 k a1 := by
  funext v402;
  have h0 : X0_0 ((blockC 0 (seqC (codeK E k fin (sub [1, 1] C)) K0))) a1 = fun z => Q1 k a1 z := funext fun z => Q1_eq k a1 z
  refine (l0_eq k ((blockC 0 (seqC (codeK E k fin (sub [1, 1] C)) K0))) a1 v402).trans ?_
  rw [h0]
  rfl
noncomputable def p (l0 : ((List Tx) × Int) → Option Out) (a1 : Arg) : Option Out := l0 (a1.1, (0 : Int))
noncomputable def raw (k : Nat) (a1 : Arg) : Option Out := p (r0 k a1) a1
theorem p_eq (k : Nat) (a1 : Arg) : bodyK E k Go.Proofs.Try.f228 ps rs [] [] a1 = p (s0 k a1) a1 := by kernel_rfl
theorem raw_eq (k : Nat) (a1 : Arg) : bodyK E k Go.Proofs.Try.f228 ps rs [] [] a1 = raw k a1 := (p_eq k a1).trans (by rw [s0_eq]; rfl)
theorem ent : EnterOk Go.Proofs.Try.prog 228 sig.cap := ⟨Go.Proofs.Try.f228, Go.Proofs.Try.func228, by kernel_rfl, by kernel_rfl, by kernel_rfl⟩
theorem env : EnvOk Go.Proofs.Try.prog E := env_ok (tl := [(2, i64), (29, (.slc tTx)), (214, tKey), (218, (.slc tKey)), (220, tTx)]) (gl := [(162, spec_l10Lock.sig)]) rfl rfl (by kernel_rfl) (by kernel_rfl) (fn_cons spec_l10Lock.snd spec_l10Lock.ent (fn_nil _))
theorem chk : funOk Go.Proofs.Try.prog E Go.Proofs.Try.f228 ps rs [] = true := by kernel_rfl
theorem snd : Sound Go.Proofs.Try.prog 228 sig := sound_of_body env Go.Proofs.Try.func228 rfl (es := []) (fr := []) chk (fun _ _ h => lift_some h)
end spec_l10Apart
namespace spec_l10Fault
/-! loop example g00408 spec l10Fault -/
abbrev Arg : Type := (List Tx) × Unit
abbrev Out : Type := Int × Unit
noncomputable def ps : List (PM × Ty) := [(.ro, (.slc tTx))]
noncomputable def rs : List (Ty × Md) := [(i64, (roMd i64))]
noncomputable def E : Env := { TI := lookN [(2, i64), (29, (.slc tTx)), (220, tTx)], G := lookN [(90, spec_l1In.sig), (163, spec_l10Count.sig), (226, spec_l10Undo.sig), (227, spec_l10Marks.sig), (228, spec_l10Apart.sig)], fz := [], lv := [(4, [0, 3])], lx := [(0, [0])], lf := [], od := [(9, [0, 1, 2, 3, 4, 5, 6, 7, 8, 9, 10, 11, 12, 13, 14])] }
noncomputable def sem (a : Arg) : Option Out := lift fun k => bodyK E k Go.Proofs.Try.f158 ps rs [] [] a
noncomputable def sig : Sig := { ps := ps, rs := rs, F := fun a => sem a }
noncomputable def C : Code := bodyOf Go.Proofs.Try.f158
noncomputable def fin : St → Option Out := outK ps rs [] (Func.results Go.Proofs.Try.f158).toList (mvs [])
noncomputable def K0 : Ex → St → Option Out := endK fin
noncomputable def S0 (rec : St → Option Out) (a1 : Arg) : (Int) → Option Out := fun v402 => rec ({ n := 56, sl := [(0, .val (.slc tTx) a1.1), (3, .val i64 v402)], vr := [], lent := [] })
noncomputable def X0_0 (K : Ex → St → Option Out) (a1 : Arg) : (Unit) → Option Out := fun z => K (.exit 0) ({ n := 56, sl := [(0, .val (.slc tTx) a1.1)], vr := [], lent := [] })
noncomputable def b0 (self : Int → Option Out) (e0 : (Unit) → Option Out) (a1 : Arg) (v402 : Int) : Option Out := bif decide (v402 < (a1.1.length : Int)) then (if 0 ≤ v402 then ((a1.1[v402.toNat]?).bind fun x603 => (spec_l1In.sem (x603.1, (1 : Int), (99 : Int), ())).bind fun r604 => bif !r604.1 then (some ((3 : Int), ())) else let j608 : Option Out := (spec_l10Undo.sem (x603, ())).bind fun r609 => bif !decide (r609.1 = (0 : Int)) then (some (r609.1, ())) else (spec_l10Marks.sem (x603, ())).bind fun r610 => bif !decide (r610.1 = (0 : Int)) then (some (r610.1, ())) else self (w64 (v402 + (1 : Int))); bif decide ((0 : Int) < v402) then (if 0 ≤ w64 (v402 - (1 : Int)) then ((a1.1[(w64 (v402 - (1 : Int))).toNat]?).bind fun x605 => bif decide (x603.1 ≤ x605.1) then (some ((1 : Int), ())) else j608) else none) else j608) else none) else e0 ()
noncomputable def B0 (k : Nat) (self : Int → Option Out) (e0 : (Unit) → Option Out) (a1 : Arg) (v402 : Int) : Option Out := b0 self e0 a1 v402
theorem b0_eq (k : Nat) (rec : St → Option Out) (K : Ex → St → Option Out) (a1 : Arg) (v402 : Int) : codeK E k fin (sub [1, 1, 0, 1, 0, 0] C) ({ n := 56, sl := [(0, .val (.slc tTx) a1.1), (3, .val i64 v402)], vr := [], lent := [] }) (loopC rec (keepF [0, 3] []) K) = b0 (S0 rec a1) (X0_0 K a1) a1 v402 := by kernel_rfl
theorem B0_eq (k : Nat) (rec : St → Option Out) (K : Ex → St → Option Out) (a1 : Arg) (v402 : Int) : codeK E k fin (sub [1, 1, 0, 1, 0, 0] C) ({ n := 56, sl := [(0, .val (.slc tTx) a1.1), (3, .val i64 v402)], vr := [], lent := [] }) (loopC rec (keepF [0, 3] []) K) = B0 k (S0 rec a1) (X0_0 K a1) a1 v402 := (b0_eq k rec K a1 v402).trans (by rfl)
noncomputable def l0 (k : Nat) (a1 : Arg) (e0 : (Unit) → Option Out) (v : Int) : Option Out := rawIter (fun self v => B0 k self e0 a1 v) k v
theorem l0_eq (k : Nat) (K : Ex → St → Option Out) (a1 : Arg) (v402 : Int) : iterK (codeK E k fin (sub [1, 1, 0, 1, 0, 0] C)) (keepF [0, 3] []) K k ({ n := 56, sl := [(0, .val (.slc tTx) a1.1), (3, .val i64 v402)], vr := [], lent := [] }) = l0 k a1 (X0_0 K a1) v402 :=
  iter_raw _ _ K (fun v402 => ({ n := 56, sl := [(0, .val (.slc tTx) a1.1), (3, .val i64 v402)], vr := [], lent := [] } : St)) (fun self v => B0 k self (X0_0 K a1) a1 v) (fun rec v => B0_eq k rec K a1 v) k v402
noncomputable def q0 (a1 : Arg) (z611 : (Unit)) : Option Out := (spec_l10Apart.sem (a1.1, ())).bind fun r612 => bif !r612.1 then (some ((7 : Int), ())) else (spec_l10Count.sem (a1.1, ())).bind fun r613 => bif decide ((12 : Int) < r613.1) then (some ((2 : Int), ())) else some ((0 : Int), ())
noncomputable def Q0 (k : Nat) (a1 : Arg) (z611 : (Unit)) : Option Out := q0 a1 z611
theorem q0_eq (k : Nat) (a1 : Arg) (z611 : (Unit)) : (blockC 0 (seqC (codeK E k fin (sub [1, 1, 1] C)) K0)) (.exit 0) ({ n := 56, sl := [(0, .val (.slc tTx) a1.1)], vr := [], lent := [] }) = q0 a1 z611 := by kernel_rfl
theorem Q0_eq (k : Nat) (a1 : Arg) (z611 : (Unit)) : (blockC 0 (seqC (codeK E k fin (sub [1, 1, 1] C)) K0)) (.exit 0) ({ n := 56, sl := [(0, .val (.slc tTx) a1.1)], vr := [], lent := [] }) = Q0 k a1 z611 := (q0_eq k a1 z611).trans (by rfl)
noncomputable def s0 (k : Nat) (a1 : Arg) : (Int) → Option Out := fun v402 => iterK (codeK E k fin (sub [1, 1, 0, 1, 0, 0] C)) (keepF [0, 3] []) (blockC 0 (seqC (codeK E k fin (sub [1, 1, 1] C)) K0)) k ({ n := 56, sl := [(0, .val (.slc tTx) a1.1), (3, .val i64 v402)], vr := [], lent := [] })
noncomputable def r0 (k : Nat) (a1 : Arg) : (Int) → Option Out := fun v402 => l0 k a1 (fun z => Q0 k a1 z) v402
theorem s0_eq (k : Nat) (a1 : Arg) : s0 k a1 = r0 k a1 := by
  funext v402;
  have h0 : X0_0 ((blockC 0 (seqC (codeK E k fin (sub [1, 1, 1] C)) K0))) a1 = fun z => Q0 k a1 z := funext fun z => Q0_eq k a1 z
  refine (l0_eq k ((blockC 0 (seqC (codeK E k fin (sub [1, 1, 1] C)) K0))) a1 v402).trans ?_
  rw [h0]
  rfl
noncomputable def p (l0 : (Int) → Option Out) (a1 : Arg) : Option Out := bif decide ((4 : Int) < (a1.1.length : Int)) then (some ((2 : Int), ())) else l0 (0 : Int)
noncomputable def raw (k : Nat) (a1 : Arg) : Option Out := p (r0 k a1) a1
theorem p_eq (k : Nat) (a1 : Arg) : bodyK E k Go.Proofs.Try.f158 ps rs [] [] a1 = p (s0 k a1) a1 := by kernel_rfl
theorem raw_eq (k : Nat) (a1 : Arg) : bodyK E k Go.Proofs.Try.f158 ps rs [] [] a1 = raw k a1 := (p_eq k a1).trans (by rw [s0_eq]; rfl)
theorem ent : EnterOk Go.Proofs.Try.prog 158 sig.cap := ⟨Go.Proofs.Try.f158, Go.Proofs.Try.func158, by kernel_rfl, by kernel_rfl, by kernel_rfl⟩
theorem env : EnvOk Go.Proofs.Try.prog E := env_ok (tl := [(2, i64), (29, (.slc tTx)), (220, tTx)]) (gl := [(90, spec_l1In.sig), (163, spec_l10Count.sig), (226, spec_l10Undo.sig), (227, spec_l10Marks.sig), (228, spec_l10Apart.sig)]) rfl rfl (by kernel_rfl) (by kernel_rfl) (fn_cons spec_l1In.snd spec_l1In.ent (fn_cons spec_l10Count.snd spec_l10Count.ent (fn_cons spec_l10Undo.snd spec_l10Undo.ent (fn_cons spec_l10Marks.snd spec_l10Marks.ent (fn_cons spec_l10Apart.snd spec_l10Apart.ent (fn_nil _))))))
theorem chk : funOk Go.Proofs.Try.prog E Go.Proofs.Try.f158 ps rs [] = true := by kernel_rfl
theorem snd : Sound Go.Proofs.Try.prog 158 sig := sound_of_body env Go.Proofs.Try.func158 rfl (es := []) (fr := []) chk (fun _ _ h => lift_some h)
end spec_l10Fault
namespace spec_l10At
/-! loop example g00408 spec l10At -/
abbrev Arg : Type := (List Tx) × Int × Unit
abbrev Out : Type := Int × Unit
noncomputable def ps : List (PM × Ty) := [(.ro, (.slc tTx)), (.ro, i64)]
noncomputable def rs : List (Ty × Md) := [(i64, (roMd i64))]
noncomputable def E : Env := { TI := lookN [(2, i64), (29, (.slc tTx)), (220, tTx)], G := lookN [], fz := [], lv := [(2, [0, 1, 5])], lx := [(0, [])], lf := [], od := [] }
noncomputable def sem (a : Arg) : Option Out := lift fun k => bodyK E k Go.Proofs.Try.f159 ps rs [] [] a
noncomputable def sig : Sig := { ps := ps, rs := rs, F := fun a => sem a }
noncomputable def C : Code := bodyOf Go.Proofs.Try.f159
noncomputable def fin : St → Option Out := outK ps rs [] (Func.results Go.Proofs.Try.f159).toList (mvs [])
noncomputable def K0 : Ex → St → Option Out := endK fin
noncomputable def S0 (rec : St → Option Out) (a1 : Arg) : (Int) → Option Out := fun v402 => rec ({ n := 20, sl := [(0, .val (.slc tTx) a1.1), (1, .val i64 a1.2.1), (5, .val i64 v402)], vr := [], lent := [] })
noncomputable def X0_0 (K : Ex → St → Option Out) (a1 : Arg) : (Unit) → Option Out := fun z => K (.exit 0) ({ n := 20, sl := [], vr := [], lent := [] })
noncomputable def b0 (self : Int → Option Out) (e0 : (Unit) → Option Out) (a1 : Arg) (v402 : Int) : Option Out := bif decide (v402 < (a1.1.length : Int)) then (if 0 ≤ v402 then ((a1.1[v402.toNat]?).bind fun x603 => bif decide (x603.1 = a1.2.1) then (some (v402, ())) else self (w64 (v402 + (1 : Int)))) else none) else e0 ()
noncomputable def B0 (k : Nat) (self : Int → Option Out) (e0 : (Unit) → Option Out) (a1 : Arg) (v402 : Int) : Option Out := b0 self e0 a1 v402
theorem b0_eq (k : Nat) (rec : St → Option Out) (K : Ex → St → Option Out) (a1 : Arg) (v402 : Int) : codeK E k fin (sub [1, 0, 1, 0, 0] C) ({ n := 20, sl := [(0, .val (.slc tTx) a1.1), (1, .val i64 a1.2.1), (5, .val i64 v402)], vr := [], lent := [] }) (loopC rec (keepF [0, 1, 5] []) K) = b0 (S0 rec a1) (X0_0 K a1) a1 v402 := by kernel_rfl
theorem B0_eq (k : Nat) (rec : St → Option Out) (K : Ex → St → Option Out) (a1 : Arg) (v402 : Int) : codeK E k fin (sub [1, 0, 1, 0, 0] C) ({ n := 20, sl := [(0, .val (.slc tTx) a1.1), (1, .val i64 a1.2.1), (5, .val i64 v402)], vr := [], lent := [] }) (loopC rec (keepF [0, 1, 5] []) K) = B0 k (S0 rec a1) (X0_0 K a1) a1 v402 := (b0_eq k rec K a1 v402).trans (by rfl)
noncomputable def l0 (k : Nat) (a1 : Arg) (e0 : (Unit) → Option Out) (v : Int) : Option Out := rawIter (fun self v => B0 k self e0 a1 v) k v
theorem l0_eq (k : Nat) (K : Ex → St → Option Out) (a1 : Arg) (v402 : Int) : iterK (codeK E k fin (sub [1, 0, 1, 0, 0] C)) (keepF [0, 1, 5] []) K k ({ n := 20, sl := [(0, .val (.slc tTx) a1.1), (1, .val i64 a1.2.1), (5, .val i64 v402)], vr := [], lent := [] }) = l0 k a1 (X0_0 K a1) v402 :=
  iter_raw _ _ K (fun v402 => ({ n := 20, sl := [(0, .val (.slc tTx) a1.1), (1, .val i64 a1.2.1), (5, .val i64 v402)], vr := [], lent := [] } : St)) (fun self v => B0 k self (X0_0 K a1) a1 v) (fun rec v => B0_eq k rec K a1 v) k v402
noncomputable def q0 (a1 : Arg) (z604 : (Unit)) : Option Out := some ((-1 : Int), ())
noncomputable def Q0 (k : Nat) (a1 : Arg) (z604 : (Unit)) : Option Out := q0 a1 z604
theorem q0_eq (k : Nat) (a1 : Arg) (z604 : (Unit)) : (blockC 0 (seqC (codeK E k fin (sub [1, 1] C)) K0)) (.exit 0) ({ n := 20, sl := [], vr := [], lent := [] }) = q0 a1 z604 := by kernel_rfl
theorem Q0_eq (k : Nat) (a1 : Arg) (z604 : (Unit)) : (blockC 0 (seqC (codeK E k fin (sub [1, 1] C)) K0)) (.exit 0) ({ n := 20, sl := [], vr := [], lent := [] }) = Q0 k a1 z604 := (q0_eq k a1 z604).trans (by rfl)
noncomputable def s0 (k : Nat) (a1 : Arg) : (Int) → Option Out := fun v402 => iterK (codeK E k fin (sub [1, 0, 1, 0, 0] C)) (keepF [0, 1, 5] []) (blockC 0 (seqC (codeK E k fin (sub [1, 1] C)) K0)) k ({ n := 20, sl := [(0, .val (.slc tTx) a1.1), (1, .val i64 a1.2.1), (5, .val i64 v402)], vr := [], lent := [] })
noncomputable def r0 (k : Nat) (a1 : Arg) : (Int) → Option Out := fun v402 => l0 k a1 (fun z => Q0 k a1 z) v402
theorem s0_eq (k : Nat) (a1 : Arg) : s0 k a1 = r0 k a1 := by
  funext v402;
  have h0 : X0_0 ((blockC 0 (seqC (codeK E k fin (sub [1, 1] C)) K0))) a1 = fun z => Q0 k a1 z := funext fun z => Q0_eq k a1 z
  refine (l0_eq k ((blockC 0 (seqC (codeK E k fin (sub [1, 1] C)) K0))) a1 v402).trans ?_
  rw [h0]
  rfl
noncomputable def p (l0 : (Int) → Option Out) (a1 : Arg) : Option Out := l0 (0 : Int)
noncomputable def raw (k : Nat) (a1 : Arg) : Option Out := p (r0 k a1) a1
theorem p_eq (k : Nat) (a1 : Arg) : bodyK E k Go.Proofs.Try.f159 ps rs [] [] a1 = p (s0 k a1) a1 := by kernel_rfl
theorem raw_eq (k : Nat) (a1 : Arg) : bodyK E k Go.Proofs.Try.f159 ps rs [] [] a1 = raw k a1 := (p_eq k a1).trans (by rw [s0_eq]; rfl)
theorem ent : EnterOk Go.Proofs.Try.prog 159 sig.cap := ⟨Go.Proofs.Try.f159, Go.Proofs.Try.func159, by kernel_rfl, by kernel_rfl, by kernel_rfl⟩
theorem env : EnvOk Go.Proofs.Try.prog E := env_ok (tl := [(2, i64), (29, (.slc tTx)), (220, tTx)]) (gl := []) rfl rfl (by kernel_rfl) (by kernel_rfl) (fn_nil _)
theorem chk : funOk Go.Proofs.Try.prog E Go.Proofs.Try.f159 ps rs [] = true := by kernel_rfl
theorem snd : Sound Go.Proofs.Try.prog 159 sig := sound_of_body env Go.Proofs.Try.func159 rfl (es := []) (fr := []) chk (fun _ _ h => lift_some h)
end spec_l10At
namespace spec_l10CopyOne
/-! loop example g00408 spec l10CopyOne -/
abbrev Arg : Type := Tx × Unit
abbrev Out : Type := Tx × Unit
noncomputable def ps : List (PM × Ty) := [(.ro, tTx)]
noncomputable def rs : List (Ty × Md) := [(tTx, (ownMd tTx))]
noncomputable def E : Env := { TI := lookN [(2, i64), (141, (.slc tChange)), (205, (.slc i64)), (218, (.slc tKey)), (220, tTx)], G := lookN [], fz := [], lv := [], lx := [], lf := [], od := [(1, [0, 1, 3, 4, 7, 8, 11, 12, 2, 5, 6, 9, 10, 13, 14, 15])], ar := [(1, [1, 4, 8, 12])], bx := [(1, [1])], pd := [(1, [2, 6, 10])] }
noncomputable def sem (a : Arg) : Option Out := lift fun k => bodyK E k Go.Proofs.Try.f266 ps rs [] [] a
noncomputable def sig : Sig := { ps := ps, rs := rs, F := fun a => sem a }
noncomputable def C : Code := bodyOf Go.Proofs.Try.f266
noncomputable def fin : St → Option Out := outK ps rs [] (Func.results Go.Proofs.Try.f266).toList (mvs [])
noncomputable def K0 : Ex → St → Option Out := endK fin
noncomputable def p (a1 : Arg) : Option Out := if ([] : List Change).length + a1.1.2.1.length ≤ CAP then (if ([] : List Int).length + a1.1.2.2.1.length ≤ CAP then (if ([] : List Key).length + a1.1.2.2.2.1.length ≤ CAP then (some ((a1.1.1, ([] : List Change) ++ a1.1.2.1, ([] : List Int) ++ a1.1.2.2.1, ([] : List Key) ++ a1.1.2.2.2.1, ()), ())) else none) else none) else none
noncomputable def raw (k : Nat) (a1 : Arg) : Option Out := p a1
theorem p_eq (k : Nat) (a1 : Arg) : bodyK E k Go.Proofs.Try.f266 ps rs [] [] a1 = p a1 := by kernel_rfl
theorem raw_eq (k : Nat) (a1 : Arg) : bodyK E k Go.Proofs.Try.f266 ps rs [] [] a1 = raw k a1 := (p_eq k a1).trans (by rfl)
theorem ent : EnterOk Go.Proofs.Try.prog 266 sig.cap := ⟨Go.Proofs.Try.f266, Go.Proofs.Try.func266, by kernel_rfl, by kernel_rfl, by kernel_rfl⟩
theorem env : EnvOk Go.Proofs.Try.prog E := env_ok (tl := [(2, i64), (141, (.slc tChange)), (205, (.slc i64)), (218, (.slc tKey)), (220, tTx)]) (gl := []) rfl rfl (by kernel_rfl) (by kernel_rfl) (fn_nil _)
theorem chk : funOk Go.Proofs.Try.prog E Go.Proofs.Try.f266 ps rs [] = true := by kernel_rfl
theorem snd : Sound Go.Proofs.Try.prog 266 sig := sound_of_body env Go.Proofs.Try.func266 rfl (es := []) (fr := []) chk (fun _ _ h => lift_some h)
end spec_l10CopyOne
namespace spec_l10Copy
/-! loop example g00408 spec l10Copy -/
abbrev Arg : Type := (List Tx) × Unit
abbrev Out : Type := (List Tx) × Unit
noncomputable def ps : List (PM × Ty) := [(.ro, (.slc tTx))]
noncomputable def rs : List (Ty × Md) := [((.slc tTx), (ownMd (.slc tTx)))]
noncomputable def E : Env := { TI := lookN [(29, (.slc tTx)), (220, tTx)], G := lookN [(266, spec_l10CopyOne.sig)], fz := [], lv := [(3, [0, 3, 4])], lx := [(0, [3])], lf := [], od := [] }
noncomputable def sem (a : Arg) : Option Out := lift fun k => bodyK E k Go.Proofs.Try.f230 ps rs [] [] a
noncomputable def sig : Sig := { ps := ps, rs := rs, F := fun a => sem a }
noncomputable def C : Code := bodyOf Go.Proofs.Try.f230
noncomputable def fin : St → Option Out := outK ps rs [] (Func.results Go.Proofs.Try.f230).toList (mvs [])
noncomputable def K0 : Ex → St → Option Out := endK fin
noncomputable def S0 (rec : St → Option Out) (a1 : Arg) : ((List Tx) × Int) → Option Out := fun v402 => rec ({ n := 21, sl := [(0, .val (.slc tTx) a1.1), (3, .own (.slc tTx) (ownMd (.slc tTx)) [] v402.1), (4, .val i64 v402.2)], vr := [], lent := [] })
noncomputable def X0_0 (K : Ex → St → Option Out) (a1 : Arg) : (List Tx) → Option Out := fun z => K (.exit 0) ({ n := 21, sl := [(3, .own (.slc tTx) (ownMd (.slc tTx)) [] z)], vr := [], lent := [] })
noncomputable def b0 (self : ((List Tx) × Int) → Option Out) (e0 : (List Tx) → Option Out) (a1 : Arg) (v402 : (List Tx) × Int) : Option Out := bif decide (v402.2 < (a1.1.length : Int)) then (if 0 ≤ v402.2 then ((a1.1[v402.2.toNat]?).bind fun x603 => (spec_l10CopyOne.sem (x603, ())).bind fun r604 => if v402.1.length + [r604.1].length ≤ CAP then (self (v402.1 ++ [r604.1], w64 (v402.2 + (1 : Int)))) else none) else none) else e0 v402.1
noncomputable def B0 (k : Nat) (self : ((List Tx) × Int) → Option Out) (e0 : (List Tx) → Option Out) (a1 : Arg) (v402 : (List Tx) × Int) : Option Out := b0 self e0 a1 v402
theorem b0_eq (k : Nat) (rec : St → Option Out) (K : Ex → St → Option Out) (a1 : Arg) (v402 : (List Tx) × Int) : codeK E k fin (sub [1, 1, 0, 1, 0, 0] C) ({ n := 21, sl := [(0, .val (.slc tTx) a1.1), (3, .own (.slc tTx) (ownMd (.slc tTx)) [] v402.1), (4, .val i64 v402.2)], vr := [], lent := [] }) (loopC rec (keepF [0, 3, 4] []) K) = b0 (S0 rec a1) (X0_0 K a1) a1 v402 := by kernel_rfl
theorem B0_eq (k : Nat) (rec : St → Option Out) (K : Ex → St → Option Out) (a1 : Arg) (v402 : (List Tx) × Int) : codeK E k fin (sub [1, 1, 0, 1, 0, 0] C) ({ n := 21, sl := [(0, .val (.slc tTx) a1.1), (3, .own (.slc tTx) (ownMd (.slc tTx)) [] v402.1), (4, .val i64 v402.2)], vr := [], lent := [] }) (loopC rec (keepF [0, 3, 4] []) K) = B0 k (S0 rec a1) (X0_0 K a1) a1 v402 := (b0_eq k rec K a1 v402).trans (by rfl)
noncomputable def l0 (k : Nat) (a1 : Arg) (e0 : (List Tx) → Option Out) (v : (List Tx) × Int) : Option Out := rawIter (fun self v => B0 k self e0 a1 v) k v
theorem l0_eq (k : Nat) (K : Ex → St → Option Out) (a1 : Arg) (v402 : (List Tx) × Int) : iterK (codeK E k fin (sub [1, 1, 0, 1, 0, 0] C)) (keepF [0, 3, 4] []) K k ({ n := 21, sl := [(0, .val (.slc tTx) a1.1), (3, .own (.slc tTx) (ownMd (.slc tTx)) [] v402.1), (4, .val i64 v402.2)], vr := [], lent := [] }) = l0 k a1 (X0_0 K a1) v402 :=
  iter_raw _ _ K (fun v402 => ({ n := 21, sl := [(0, .val (.slc tTx) a1.1), (3, .own (.slc tTx) (ownMd (.slc tTx)) [] v402.1), (4, .val i64 v402.2)], vr := [], lent := [] } : St)) (fun self v => B0 k self (X0_0 K a1) a1 v) (fun rec v => B0_eq k rec K a1 v) k v402
noncomputable def q0 (a1 : Arg) (z605 : (List Tx)) : Option Out := some (z605, ())
noncomputable def Q0 (k : Nat) (a1 : Arg) (z605 : (List Tx)) : Option Out := q0 a1 z605
theorem q0_eq (k : Nat) (a1 : Arg) (z605 : (List Tx)) : (blockC 0 (seqC (codeK E k fin (sub [1, 1, 1] C)) K0)) (.exit 0) ({ n := 21, sl := [(3, .own (.slc tTx) (ownMd (.slc tTx)) [] z605)], vr := [], lent := [] }) = q0 a1 z605 := by kernel_rfl
theorem Q0_eq (k : Nat) (a1 : Arg) (z605 : (List Tx)) : (blockC 0 (seqC (codeK E k fin (sub [1, 1, 1] C)) K0)) (.exit 0) ({ n := 21, sl := [(3, .own (.slc tTx) (ownMd (.slc tTx)) [] z605)], vr := [], lent := [] }) = Q0 k a1 z605 := (q0_eq k a1 z605).trans (by rfl)
noncomputable def s0 (k : Nat) (a1 : Arg) : ((List Tx) × Int) → Option Out := fun v402 => iterK (codeK E k fin (sub [1, 1, 0, 1, 0, 0] C)) (keepF [0, 3, 4] []) (blockC 0 (seqC (codeK E k fin (sub [1, 1, 1] C)) K0)) k ({ n := 21, sl := [(0, .val (.slc tTx) a1.1), (3, .own (.slc tTx) (ownMd (.slc tTx)) [] v402.1), (4, .val i64 v402.2)], vr := [], lent := [] })
noncomputable def r0 (k : Nat) (a1 : Arg) : ((List Tx) × Int) → Option Out := fun v402 => l0 k a1 (fun z => Q0 k a1 z) v402
theorem s0_eq (k : Nat) (a1 : Arg) : s0 k a1 = r0 k a1 := by
  funext v402;
  have h0 : X0_0 ((blockC 0 (seqC (codeK E k fin (sub [1, 1, 1] C)) K0))) a1 = fun z => Q0 k a1 z := funext fun z => Q0_eq k a1 z
  refine (l0_eq k ((blockC 0 (seqC (codeK E k fin (sub [1, 1, 1] C)) K0))) a1 v402).trans ?_
  rw [h0]
  rfl
noncomputable def p (l0 : ((List Tx) × Int) → Option Out) (a1 : Arg) : Option Out := l0 (([] : List Tx), (0 : Int))
noncomputable def raw (k : Nat) (a1 : Arg) : Option Out := p (r0 k a1) a1
theorem p_eq (k : Nat) (a1 : Arg) : bodyK E k Go.Proofs.Try.f230 ps rs [] [] a1 = p (s0 k a1) a1 := by kernel_rfl
theorem raw_eq (k : Nat) (a1 : Arg) : bodyK E k Go.Proofs.Try.f230 ps rs [] [] a1 = raw k a1 := (p_eq k a1).trans (by rw [s0_eq]; rfl)
theorem ent : EnterOk Go.Proofs.Try.prog 230 sig.cap := ⟨Go.Proofs.Try.f230, Go.Proofs.Try.func230, by kernel_rfl, by kernel_rfl, by kernel_rfl⟩
theorem env : EnvOk Go.Proofs.Try.prog E := env_ok (tl := [(29, (.slc tTx)), (220, tTx)]) (gl := [(266, spec_l10CopyOne.sig)]) rfl rfl (by kernel_rfl) (by kernel_rfl) (fn_cons spec_l10CopyOne.snd spec_l10CopyOne.ent (fn_nil _))
theorem chk : funOk Go.Proofs.Try.prog E Go.Proofs.Try.f230 ps rs [] = true := by kernel_rfl
theorem snd : Sound Go.Proofs.Try.prog 230 sig := sound_of_body env Go.Proofs.Try.func230 rfl (es := []) (fr := []) chk (fun _ _ h => lift_some h)
end spec_l10Copy
namespace spec_l10Note
/-! loop example g00408 spec l10Note -/
abbrev Arg : Type := (List Tx) × Int × Change × Unit
abbrev Out : Type := (List Tx) × Unit
noncomputable def ps : List (PM × Ty) := [(.ro, (.slc tTx)), (.ro, i64), (.ro, tChange)]
noncomputable def rs : List (Ty × Md) := [((.slc tTx), (ownMd (.slc tTx)))]
noncomputable def E : Env := { TI := lookN [(29, (.slc tTx)), (130, tChange), (141, (.slc tChange)), (214, tKey), (218, (.slc tKey)), (220, tTx)], G := lookN [(161, spec_l10KeyOf.sig), (164, spec_l10Locks.sig), (230, spec_l10Copy.sig)], fz := [], lv := [], lx := [], lf := [], od := [(3, [0, 1, 2, 3, 4, 5, 6, 7, 8, 9, 10]), (6, [0, 1, 2, 3, 4, 5, 6, 7, 8, 9, 10])] }
noncomputable def sem (a : Arg) : Option Out := lift fun k => bodyK E k Go.Proofs.Try.f165 ps rs [] [] a
noncomputable def sig : Sig := { ps := ps, rs := rs, F := fun a => sem a }
noncomputable def C : Code := bodyOf Go.Proofs.Try.f165
noncomputable def fin : St → Option Out := outK ps rs [] (Func.results Go.Proofs.Try.f165).toList (mvs [])
noncomputable def K0 : Ex → St → Option Out := endK fin
noncomputable def p (a1 : Arg) : Option Out := (spec_l10Copy.sem (a1.1, ())).bind fun r2 => if 0 ≤ a1.2.1 ∧ a1.2.1 < (r2.1.length : Int) then ((r2.1[a1.2.1.toNat]?).bind fun x3 => (r2.1[a1.2.1.toNat]?).bind fun x4 => (r2.1[a1.2.1.toNat]?).bind fun x5 => if x4.2.1.length + [a1.2.2.1].length ≤ CAP then (if a1.2.1.toNat = a1.2.1.toNat then ((r2.1.set a1.2.1.toNat x5)[a1.2.1.toNat]?).bind fun x6 => let y7 := (r2.1.set a1.2.1.toNat x5).set a1.2.1.toNat (x6.1, x4.2.1 ++ [a1.2.2.1], x6.2.2); (spec_l10KeyOf.sem (a1.2.2.1, ())).bind fun r8 => (y7[a1.2.1.toNat]?).bind fun x9 => (spec_l10Locks.sem (x9, r8.1, ())).bind fun r10 => bif !r10.1 then ((y7[a1.2.1.toNat]?).bind fun x11 => (y7[a1.2.1.toNat]?).bind fun x12 => (y7[a1.2.1.toNat]?).bind fun x13 => if x12.2.2.2.1.length + [r8.1].length ≤ CAP then (if a1.2.1.toNat = a1.2.1.toNat then ((y7.set a1.2.1.toNat x13)[a1.2.1.toNat]?).bind fun x14 => let y15 := (y7.set a1.2.1.toNat x13).set a1.2.1.toNat (x14.1, x14.2.1, x14.2.2.1, x12.2.2.2.1 ++ [r8.1], x14.2.2.2.2); some (y15, ()) else none) else none) else some (y7, ()) else none) else none) else none
noncomputable def raw (k : Nat) (a1 : Arg) : Option Out := p a1
theorem p_eq (k : Nat) (a1 : Arg) : bodyK E k Go.Proofs.Try.f165 ps rs [] [] a1 = p a1 := by kernel_rfl
theorem raw_eq (k : Nat) (a1 : Arg) : bodyK E k Go.Proofs.Try.f165 ps rs [] [] a1 = raw k a1 := (p_eq k a1).trans (by rfl)
theorem ent : EnterOk Go.Proofs.Try.prog 165 sig.cap := ⟨Go.Proofs.Try.f165, Go.Proofs.Try.func165, by kernel_rfl, by kernel_rfl, by kernel_rfl⟩
theorem env : EnvOk Go.Proofs.Try.prog E := env_ok (tl := [(29, (.slc tTx)), (130, tChange), (141, (.slc tChange)), (214, tKey), (218, (.slc tKey)), (220, tTx)]) (gl := [(161, spec_l10KeyOf.sig), (164, spec_l10Locks.sig), (230, spec_l10Copy.sig)]) rfl rfl (by kernel_rfl) (by kernel_rfl) (fn_cons spec_l10KeyOf.snd spec_l10KeyOf.ent (fn_cons spec_l10Locks.snd spec_l10Locks.ent (fn_cons spec_l10Copy.snd spec_l10Copy.ent (fn_nil _))))
theorem chk : funOk Go.Proofs.Try.prog E Go.Proofs.Try.f165 ps rs [] = true := by kernel_rfl
theorem snd : Sound Go.Proofs.Try.prog 165 sig := sound_of_body env Go.Proofs.Try.func165 rfl (es := []) (fr := []) chk (fun _ _ h => lift_some h)
end spec_l10Note
namespace spec_NoteChange
/-! loop example g00408 spec NoteChange -/
abbrev Arg : Type := (List Tx) × Int × Change × Unit
abbrev Out : Type := TxsResult × Unit
noncomputable def ps : List (PM × Ty) := [(.ro, (.slc tTx)), (.ro, i64), (.ro, tChange)]
noncomputable def rs : List (Ty × Md) := [(tTxsResult, (ownMd tTxsResult))]
noncomputable def E : Env := { TI := lookN [(29, (.slc tTx)), (125, tTxsResult), (130, tChange), (214, tKey), (218, (.slc tKey)), (220, tTx)], G := lookN [(158, spec_l10Fault.sig), (159, spec_l10At.sig), (160, spec_l9Change.sig), (161, spec_l10KeyOf.sig), (162, spec_l10Lock.sig), (163, spec_l10Count.sig), (164, spec_l10Locks.sig), (165, spec_l10Note.sig)], fz := [], lv := [], lx := [], lf := [], od := [(14, [0, 1, 2, 3, 4, 5, 6, 7, 8, 9, 10, 11, 12, 13, 14, 15, 16, 17, 18, 19])] }
noncomputable def sem (a : Arg) : Option Out := lift fun k => bodyK E k Go.Proofs.Try.f74 ps rs [] [] a
noncomputable def sig : Sig := { ps := ps, rs := rs, F := fun a => sem a }
noncomputable def C : Code := bodyOf Go.Proofs.Try.f74
noncomputable def fin : St → Option Out := outK ps rs [] (Func.results Go.Proofs.Try.f74).toList (mvs [])
noncomputable def K0 : Ex → St → Option Out := endK fin
noncomputable def p (a1 : Arg) : Option Out := (spec_l10Fault.sem (a1.1, ())).bind fun r2 => bif !decide (r2.1 = (0 : Int)) then (some ((r2.1, ([] : List Tx), ()), ())) else (spec_l10At.sem (a1.1, a1.2.1, ())).bind fun r3 => bif decide (r3.1 < (0 : Int)) then (some (((4 : Int), ([] : List Tx), ()), ())) else (spec_l9Change.sem (a1.2.2.1, ())).bind fun r4 => bif !decide (r4.1 = (0 : Int)) then (some ((r4.1, ([] : List Tx), ()), ())) else (spec_l10KeyOf.sem (a1.2.2.1, ())).bind fun r5 => let j13 : Option Out := (spec_l10Count.sem (a1.1, ())).bind fun r14 => bif decide ((12 : Int) ≤ r14.1) then (some (((2 : Int), ([] : List Tx), ()), ())) else if 0 ≤ r3.1 then ((a1.1[r3.1.toNat]?).bind fun x15 => bif decide ((12 : Int) ≤ (x15.2.2.2.1.length : Int)) then (if 0 ≤ r3.1 then ((a1.1[r3.1.toNat]?).bind fun x16 => (spec_l10Locks.sem (x16, r5.1, ())).bind fun r17 => bif !r17.1 then (some (((2 : Int), ([] : List Tx), ()), ())) else (spec_l10Note.sem (a1.1, r3.1, a1.2.2.1, ())).bind fun r19 => some (((0 : Int), r19.1, ()), ())) else none) else (spec_l10Note.sem (a1.1, r3.1, a1.2.2.1, ())).bind fun r20 => some (((0 : Int), r20.1, ()), ())) else none; (spec_l10Lock.sem (a1.1, r5.1, ())).bind fun r6 => bif !decide (r6.1 = (0 : Int)) then (bif !decide (r6.1 = a1.2.1) then (some (((7 : Int), ([] : List Tx), ()), ())) else j13) else j13
noncomputable def raw (k : Nat) (a1 : Arg) : Option Out := p a1
theorem p_eq (k : Nat) (a1 : Arg) : bodyK E k Go.Proofs.Try.f74 ps rs [] [] a1 = p a1 := by kernel_rfl
theorem raw_eq (k : Nat) (a1 : Arg) : bodyK E k Go.Proofs.Try.f74 ps rs [] [] a1 = raw k a1 := (p_eq k a1).trans (by rfl)
theorem ent : EnterOk Go.Proofs.Try.prog 74 sig.cap := ⟨Go.Proofs.Try.f74, Go.Proofs.Try.func74, by kernel_rfl, by kernel_rfl, by kernel_rfl⟩
theorem env : EnvOk Go.Proofs.Try.prog E := env_ok (tl := [(29, (.slc tTx)), (125, tTxsResult), (130, tChange), (214, tKey), (218, (.slc tKey)), (220, tTx)]) (gl := [(158, spec_l10Fault.sig), (159, spec_l10At.sig), (160, spec_l9Change.sig), (161, spec_l10KeyOf.sig), (162, spec_l10Lock.sig), (163, spec_l10Count.sig), (164, spec_l10Locks.sig), (165, spec_l10Note.sig)]) rfl rfl (by kernel_rfl) (by kernel_rfl) (fn_cons spec_l10Fault.snd spec_l10Fault.ent (fn_cons spec_l10At.snd spec_l10At.ent (fn_cons spec_l9Change.snd spec_l9Change.ent (fn_cons spec_l10KeyOf.snd spec_l10KeyOf.ent (fn_cons spec_l10Lock.snd spec_l10Lock.ent (fn_cons spec_l10Count.snd spec_l10Count.ent (fn_cons spec_l10Locks.snd spec_l10Locks.ent (fn_cons spec_l10Note.snd spec_l10Note.ent (fn_nil _)))))))))
theorem chk : funOk Go.Proofs.Try.prog E Go.Proofs.Try.f74 ps rs [] = true := by kernel_rfl
theorem snd : Sound Go.Proofs.Try.prog 74 sig := sound_of_body env Go.Proofs.Try.func74 rfl (es := []) (fr := []) chk (fun _ _ h => lift_some h)
end spec_NoteChange
namespace laws_toInt64S
/-! loop example g00408 laws toInt64S -/
abbrev Arg : Type := (List Int) × Unit
abbrev Out : Type := (List Int) × Unit
noncomputable def ps : List (PM × Ty) := [(.ro, (.slc i64))]
noncomputable def rs : List (Ty × Md) := [((.slc i64), (ownMd (.slc i64)))]
noncomputable def E : Env := { TI := lookN [(2, i64), (205, (.slc i64))], G := lookN [], fz := [], lv := [(3, [0, 3, 4])], lx := [(0, [3])], lf := [], od := [] }
noncomputable def sem (a : Arg) : Option Out := lift fun k => bodyK E k Go.Proofs.Try.f231 ps rs [] [] a
noncomputable def sig : Sig := { ps := ps, rs := rs, F := fun a => sem a }
noncomputable def C : Code := bodyOf Go.Proofs.Try.f231
noncomputable def fin : St → Option Out := outK ps rs [] (Func.results Go.Proofs.Try.f231).toList (mvs [])
noncomputable def K0 : Ex → St → Option Out := endK fin
noncomputable def S0 (rec : St → Option Out) (a1 : Arg) : ((List Int) × Int) → Option Out := fun v402 => rec ({ n := 22, sl := [(0, .val (.slc i64) a1.1), (3, .own (.slc i64) (ownMd (.slc i64)) [] v402.1), (4, .val i64 v402.2)], vr := [], lent := [] })
noncomputable def X0_0 (K : Ex → St → Option Out) (a1 : Arg) : (List Int) → Option Out := fun z => K (.exit 0) ({ n := 22, sl := [(3, .own (.slc i64) (ownMd (.slc i64)) [] z)], vr := [], lent := [] })
noncomputable def b0 (self : ((List Int) × Int) → Option Out) (e0 : (List Int) → Option Out) (a1 : Arg) (v402 : (List Int) × Int) : Option Out := bif decide (v402.2 < (a1.1.length : Int)) then (if 0 ≤ v402.2 then ((a1.1[v402.2.toNat]?).bind fun x603 => if 0 ≤ v402.2 ∧ v402.2 < (v402.1.length : Int) then ((v402.1[v402.2.toNat]?).bind fun x604 => self (v402.1.set v402.2.toNat x603, w64 (v402.2 + (1 : Int)))) else none) else none) else e0 v402.1
noncomputable def B0 (k : Nat) (self : ((List Int) × Int) → Option Out) (e0 : (List Int) → Option Out) (a1 : Arg) (v402 : (List Int) × Int) : Option Out := b0 self e0 a1 v402
theorem b0_eq (k : Nat) (rec : St → Option Out) (K : Ex → St → Option Out) (a1 : Arg) (v402 : (List Int) × Int) : codeK E k fin (sub [1, 1, 0, 1, 0, 0] C) ({ n := 22, sl := [(0, .val (.slc i64) a1.1), (3, .own (.slc i64) (ownMd (.slc i64)) [] v402.1), (4, .val i64 v402.2)], vr := [], lent := [] }) (loopC rec (keepF [0, 3, 4] []) K) = b0 (S0 rec a1) (X0_0 K a1) a1 v402 := by kernel_rfl
theorem B0_eq (k : Nat) (rec : St → Option Out) (K : Ex → St → Option Out) (a1 : Arg) (v402 : (List Int) × Int) : codeK E k fin (sub [1, 1, 0, 1, 0, 0] C) ({ n := 22, sl := [(0, .val (.slc i64) a1.1), (3, .own (.slc i64) (ownMd (.slc i64)) [] v402.1), (4, .val i64 v402.2)], vr := [], lent := [] }) (loopC rec (keepF [0, 3, 4] []) K) = B0 k (S0 rec a1) (X0_0 K a1) a1 v402 := (b0_eq k rec K a1 v402).trans (by rfl)
noncomputable def l0 (k : Nat) (a1 : Arg) (e0 : (List Int) → Option Out) (v : (List Int) × Int) : Option Out := rawIter (fun self v => B0 k self e0 a1 v) k v
theorem l0_eq (k : Nat) (K : Ex → St → Option Out) (a1 : Arg) (v402 : (List Int) × Int) : iterK (codeK E k fin (sub [1, 1, 0, 1, 0, 0] C)) (keepF [0, 3, 4] []) K k ({ n := 22, sl := [(0, .val (.slc i64) a1.1), (3, .own (.slc i64) (ownMd (.slc i64)) [] v402.1), (4, .val i64 v402.2)], vr := [], lent := [] }) = l0 k a1 (X0_0 K a1) v402 :=
  iter_raw _ _ K (fun v402 => ({ n := 22, sl := [(0, .val (.slc i64) a1.1), (3, .own (.slc i64) (ownMd (.slc i64)) [] v402.1), (4, .val i64 v402.2)], vr := [], lent := [] } : St)) (fun self v => B0 k self (X0_0 K a1) a1 v) (fun rec v => B0_eq k rec K a1 v) k v402
noncomputable def q0 (a1 : Arg) (z605 : (List Int)) : Option Out := some (z605, ())
noncomputable def Q0 (k : Nat) (a1 : Arg) (z605 : (List Int)) : Option Out := q0 a1 z605
theorem q0_eq (k : Nat) (a1 : Arg) (z605 : (List Int)) : (blockC 0 (seqC (codeK E k fin (sub [1, 1, 1] C)) K0)) (.exit 0) ({ n := 22, sl := [(3, .own (.slc i64) (ownMd (.slc i64)) [] z605)], vr := [], lent := [] }) = q0 a1 z605 := by kernel_rfl
theorem Q0_eq (k : Nat) (a1 : Arg) (z605 : (List Int)) : (blockC 0 (seqC (codeK E k fin (sub [1, 1, 1] C)) K0)) (.exit 0) ({ n := 22, sl := [(3, .own (.slc i64) (ownMd (.slc i64)) [] z605)], vr := [], lent := [] }) = Q0 k a1 z605 := (q0_eq k a1 z605).trans (by rfl)
noncomputable def s0 (k : Nat) (a1 : Arg) : ((List Int) × Int) → Option Out := fun v402 => iterK (codeK E k fin (sub [1, 1, 0, 1, 0, 0] C)) (keepF [0, 3, 4] []) (blockC 0 (seqC (codeK E k fin (sub [1, 1, 1] C)) K0)) k ({ n := 22, sl := [(0, .val (.slc i64) a1.1), (3, .own (.slc i64) (ownMd (.slc i64)) [] v402.1), (4, .val i64 v402.2)], vr := [], lent := [] })
noncomputable def r0 (k : Nat) (a1 : Arg) : ((List Int) × Int) → Option Out := fun v402 => l0 k a1 (fun z => Q0 k a1 z) v402
theorem s0_eq (k : Nat) (a1 : Arg) : s0 k a1 = r0 k a1 := by
  funext v402;
  have h0 : X0_0 ((blockC 0 (seqC (codeK E k fin (sub [1, 1, 1] C)) K0))) a1 = fun z => Q0 k a1 z := funext fun z => Q0_eq k a1 z
  refine (l0_eq k ((blockC 0 (seqC (codeK E k fin (sub [1, 1, 1] C)) K0))) a1 v402).trans ?_
  rw [h0]
  rfl
noncomputable def p (l0 : ((List Int) × Int) → Option Out) (a1 : Arg) : Option Out := if 0 ≤ (a1.1.length : Int) ∧ (a1.1.length : Int) ≤ (a1.1.length : Int) ∧ (a1.1.length : Int) ≤ (CAP : Int) then (l0 (List.replicate (a1.1.length : Int).toNat (0 : Int), (0 : Int))) else none
noncomputable def raw (k : Nat) (a1 : Arg) : Option Out := p (r0 k a1) a1
theorem p_eq (k : Nat) (a1 : Arg) : bodyK E k Go.Proofs.Try.f231 ps rs [] [] a1 = p (s0 k a1) a1 := by kernel_rfl
theorem raw_eq (k : Nat) (a1 : Arg) : bodyK E k Go.Proofs.Try.f231 ps rs [] [] a1 = raw k a1 := (p_eq k a1).trans (by rw [s0_eq]; rfl)
theorem ent : EnterOk Go.Proofs.Try.prog 231 sig.cap := ⟨Go.Proofs.Try.f231, Go.Proofs.Try.func231, by kernel_rfl, by kernel_rfl, by kernel_rfl⟩
theorem env : EnvOk Go.Proofs.Try.prog E := env_ok (tl := [(2, i64), (205, (.slc i64))]) (gl := []) rfl rfl (by kernel_rfl) (by kernel_rfl) (fn_nil _)
theorem chk : funOk Go.Proofs.Try.prog E Go.Proofs.Try.f231 ps rs [] = true := by kernel_rfl
theorem snd : Sound Go.Proofs.Try.prog 231 sig := sound_of_body env Go.Proofs.Try.func231 rfl (es := []) (fr := []) chk (fun _ _ h => lift_some h)
end laws_toInt64S
namespace laws_toKey
/-! loop example g00408 laws toKey -/
abbrev Arg : Type := Key × Unit
abbrev Out : Type := Key × Unit
noncomputable def ps : List (PM × Ty) := [(.ro, tKey)]
noncomputable def rs : List (Ty × Md) := [(tKey, (roMd tKey))]
noncomputable def E : Env := { TI := lookN [(2, i64), (214, tKey), (310, tKey)], G := lookN [], fz := [], lv := [], lx := [], lf := [], od := [] }
noncomputable def sem (a : Arg) : Option Out := lift fun k => bodyK E k Go.Proofs.Try.f267 ps rs [] [] a
noncomputable def sig : Sig := { ps := ps, rs := rs, F := fun a => sem a }
noncomputable def C : Code := bodyOf Go.Proofs.Try.f267
noncomputable def fin : St → Option Out := outK ps rs [] (Func.results Go.Proofs.Try.f267).toList (mvs [])
noncomputable def K0 : Ex → St → Option Out := endK fin
noncomputable def p (a1 : Arg) : Option Out := some ((a1.1.1, a1.1.2.1, ()), ())
noncomputable def raw (k : Nat) (a1 : Arg) : Option Out := p a1
theorem p_eq (k : Nat) (a1 : Arg) : bodyK E k Go.Proofs.Try.f267 ps rs [] [] a1 = p a1 := by kernel_rfl
theorem raw_eq (k : Nat) (a1 : Arg) : bodyK E k Go.Proofs.Try.f267 ps rs [] [] a1 = raw k a1 := (p_eq k a1).trans (by rfl)
theorem ent : EnterOk Go.Proofs.Try.prog 267 sig.cap := ⟨Go.Proofs.Try.f267, Go.Proofs.Try.func267, by kernel_rfl, by kernel_rfl, by kernel_rfl⟩
theorem env : EnvOk Go.Proofs.Try.prog E := env_ok (tl := [(2, i64), (214, tKey), (310, tKey)]) (gl := []) rfl rfl (by kernel_rfl) (by kernel_rfl) (fn_nil _)
theorem chk : funOk Go.Proofs.Try.prog E Go.Proofs.Try.f267 ps rs [] = true := by kernel_rfl
theorem snd : Sound Go.Proofs.Try.prog 267 sig := sound_of_body env Go.Proofs.Try.func267 rfl (es := []) (fr := []) chk (fun _ _ h => lift_some h)
end laws_toKey
namespace laws_toKeyS
/-! loop example g00408 laws toKeyS -/
abbrev Arg : Type := (List Key) × Unit
abbrev Out : Type := (List Key) × Unit
noncomputable def ps : List (PM × Ty) := [(.ro, (.slc tKey))]
noncomputable def rs : List (Ty × Md) := [((.slc tKey), (ownMd (.slc tKey)))]
noncomputable def E : Env := { TI := lookN [(206, (.slc tKey)), (214, tKey), (218, (.slc tKey)), (310, tKey)], G := lookN [(267, laws_toKey.sig)], fz := [], lv := [(3, [0, 3, 4])], lx := [(0, [3])], lf := [], od := [] }
noncomputable def sem (a : Arg) : Option Out := lift fun k => bodyK E k Go.Proofs.Try.f232 ps rs [] [] a
noncomputable def sig : Sig := { ps := ps, rs := rs, F := fun a => sem a }
noncomputable def C : Code := bodyOf Go.Proofs.Try.f232
noncomputable def fin : St → Option Out := outK ps rs [] (Func.results Go.Proofs.Try.f232).toList (mvs [])
noncomputable def K0 : Ex → St → Option Out := endK fin
noncomputable def S0 (rec : St → Option Out) (a1 : Arg) : ((List Key) × Int) → Option Out := fun v402 => rec ({ n := 23, sl := [(0, .val (.slc tKey) a1.1), (3, .own (.slc tKey) (ownMd (.slc tKey)) [] v402.1), (4, .val i64 v402.2)], vr := [], lent := [] })
noncomputable def X0_0 (K : Ex → St → Option Out) (a1 : Arg) : (List Key) → Option Out := fun z => K (.exit 0) ({ n := 23, sl := [(3, .own (.slc tKey) (ownMd (.slc tKey)) [] z)], vr := [], lent := [] })
noncomputable def b0 (self : ((List Key) × Int) → Option Out) (e0 : (List Key) → Option Out) (a1 : Arg) (v402 : (List Key) × Int) : Option Out := bif decide (v402.2 < (a1.1.length : Int)) then (if 0 ≤ v402.2 then ((a1.1[v402.2.toNat]?).bind fun x603 => (laws_toKey.sem (x603, ())).bind fun r604 => if 0 ≤ v402.2 ∧ v402.2 < (v402.1.length : Int) then ((v402.1[v402.2.toNat]?).bind fun x605 => self (v402.1.set v402.2.toNat r604.1, w64 (v402.2 + (1 : Int)))) else none) else none) else e0 v402.1
noncomputable def B0 (k : Nat) (self : ((List Key) × Int) → Option Out) (e0 : (List Key) → Option Out) (a1 : Arg) (v402 : (List Key) × Int) : Option Out := b0 self e0 a1 v402
theorem b0_eq (k : Nat) (rec : St → Option Out) (K : Ex → St → Option Out) (a1 : Arg) (v402 : (List Key) × Int) : codeK E k fin (sub [1, 1, 0, 1, 0, 0] C) ({ n := 23, sl := [(0, .val (.slc tKey) a1.1), (3, .own (.slc tKey) (ownMd (.slc tKey)) [] v402.1), (4, .val i64 v402.2)], vr := [], lent := [] }) (loopC rec (keepF [0, 3, 4] []) K) = b0 (S0 rec a1) (X0_0 K a1) a1 v402 := by kernel_rfl
theorem B0_eq (k : Nat) (rec : St → Option Out) (K : Ex → St → Option Out) (a1 : Arg) (v402 : (List Key) × Int) : codeK E k fin (sub [1, 1, 0, 1, 0, 0] C) ({ n := 23, sl := [(0, .val (.slc tKey) a1.1), (3, .own (.slc tKey) (ownMd (.slc tKey)) [] v402.1), (4, .val i64 v402.2)], vr := [], lent := [] }) (loopC rec (keepF [0, 3, 4] []) K) = B0 k (S0 rec a1) (X0_0 K a1) a1 v402 := (b0_eq k rec K a1 v402).trans (by rfl)
noncomputable def l0 (k : Nat) (a1 : Arg) (e0 : (List Key) → Option Out) (v : (List Key) × Int) : Option Out := rawIter (fun self v => B0 k self e0 a1 v) k v
theorem l0_eq (k : Nat) (K : Ex → St → Option Out) (a1 : Arg) (v402 : (List Key) × Int) : iterK (codeK E k fin (sub [1, 1, 0, 1, 0, 0] C)) (keepF [0, 3, 4] []) K k ({ n := 23, sl := [(0, .val (.slc tKey) a1.1), (3, .own (.slc tKey) (ownMd (.slc tKey)) [] v402.1), (4, .val i64 v402.2)], vr := [], lent := [] }) = l0 k a1 (X0_0 K a1) v402 :=
  iter_raw _ _ K (fun v402 => ({ n := 23, sl := [(0, .val (.slc tKey) a1.1), (3, .own (.slc tKey) (ownMd (.slc tKey)) [] v402.1), (4, .val i64 v402.2)], vr := [], lent := [] } : St)) (fun self v => B0 k self (X0_0 K a1) a1 v) (fun rec v => B0_eq k rec K a1 v) k v402
noncomputable def q0 (a1 : Arg) (z606 : (List Key)) : Option Out := some (z606, ())
noncomputable def Q0 (k : Nat) (a1 : Arg) (z606 : (List Key)) : Option Out := q0 a1 z606
theorem q0_eq (k : Nat) (a1 : Arg) (z606 : (List Key)) : (blockC 0 (seqC (codeK E k fin (sub [1, 1, 1] C)) K0)) (.exit 0) ({ n := 23, sl := [(3, .own (.slc tKey) (ownMd (.slc tKey)) [] z606)], vr := [], lent := [] }) = q0 a1 z606 := by kernel_rfl
theorem Q0_eq (k : Nat) (a1 : Arg) (z606 : (List Key)) : (blockC 0 (seqC (codeK E k fin (sub [1, 1, 1] C)) K0)) (.exit 0) ({ n := 23, sl := [(3, .own (.slc tKey) (ownMd (.slc tKey)) [] z606)], vr := [], lent := [] }) = Q0 k a1 z606 := (q0_eq k a1 z606).trans (by rfl)
noncomputable def s0 (k : Nat) (a1 : Arg) : ((List Key) × Int) → Option Out := fun v402 => iterK (codeK E k fin (sub [1, 1, 0, 1, 0, 0] C)) (keepF [0, 3, 4] []) (blockC 0 (seqC (codeK E k fin (sub [1, 1, 1] C)) K0)) k ({ n := 23, sl := [(0, .val (.slc tKey) a1.1), (3, .own (.slc tKey) (ownMd (.slc tKey)) [] v402.1), (4, .val i64 v402.2)], vr := [], lent := [] })
noncomputable def r0 (k : Nat) (a1 : Arg) : ((List Key) × Int) → Option Out := fun v402 => l0 k a1 (fun z => Q0 k a1 z) v402
theorem s0_eq (k : Nat) (a1 : Arg) : s0 k a1 = r0 k a1 := by
  funext v402;
  have h0 : X0_0 ((blockC 0 (seqC (codeK E k fin (sub [1, 1, 1] C)) K0))) a1 = fun z => Q0 k a1 z := funext fun z => Q0_eq k a1 z
  refine (l0_eq k ((blockC 0 (seqC (codeK E k fin (sub [1, 1, 1] C)) K0))) a1 v402).trans ?_
  rw [h0]
  rfl
noncomputable def p (l0 : ((List Key) × Int) → Option Out) (a1 : Arg) : Option Out := if 0 ≤ (a1.1.length : Int) ∧ (a1.1.length : Int) ≤ (a1.1.length : Int) ∧ (a1.1.length : Int) ≤ (CAP : Int) then (l0 (List.replicate (a1.1.length : Int).toNat ((0 : Int), (0 : Int), ()), (0 : Int))) else none
noncomputable def raw (k : Nat) (a1 : Arg) : Option Out := p (r0 k a1) a1
theorem p_eq (k : Nat) (a1 : Arg) : bodyK E k Go.Proofs.Try.f232 ps rs [] [] a1 = p (s0 k a1) a1 := by kernel_rfl
theorem raw_eq (k : Nat) (a1 : Arg) : bodyK E k Go.Proofs.Try.f232 ps rs [] [] a1 = raw k a1 := (p_eq k a1).trans (by rw [s0_eq]; rfl)
theorem ent : EnterOk Go.Proofs.Try.prog 232 sig.cap := ⟨Go.Proofs.Try.f232, Go.Proofs.Try.func232, by kernel_rfl, by kernel_rfl, by kernel_rfl⟩
theorem env : EnvOk Go.Proofs.Try.prog E := env_ok (tl := [(206, (.slc tKey)), (214, tKey), (218, (.slc tKey)), (310, tKey)]) (gl := [(267, laws_toKey.sig)]) rfl rfl (by kernel_rfl) (by kernel_rfl) (fn_cons laws_toKey.snd laws_toKey.ent (fn_nil _))
theorem chk : funOk Go.Proofs.Try.prog E Go.Proofs.Try.f232 ps rs [] = true := by kernel_rfl
theorem snd : Sound Go.Proofs.Try.prog 232 sig := sound_of_body env Go.Proofs.Try.func232 rfl (es := []) (fr := []) chk (fun _ _ h => lift_some h)
end laws_toKeyS
namespace laws_toTx
/-! loop example g00408 laws toTx -/
abbrev Arg : Type := Tx × Unit
abbrev Out : Type := Tx × Unit
noncomputable def ps : List (PM × Ty) := [(.ro, tTx)]
noncomputable def rs : List (Ty × Md) := [(tTx, (ownMd tTx))]
noncomputable def E : Env := { TI := lookN [(2, i64), (138, (.slc tChange)), (141, (.slc tChange)), (205, (.slc i64)), (206, (.slc tKey)), (208, tTx), (218, (.slc tKey)), (220, tTx)], G := lookN [(179, laws_toChangeS.sig), (231, laws_toInt64S.sig), (232, laws_toKeyS.sig)], fz := [], lv := [], lx := [], lf := [], od := [] }
noncomputable def sem (a : Arg) : Option Out := lift fun k => bodyK E k Go.Proofs.Try.f166 ps rs [] [] a
noncomputable def sig : Sig := { ps := ps, rs := rs, F := fun a => sem a }
noncomputable def C : Code := bodyOf Go.Proofs.Try.f166
noncomputable def fin : St → Option Out := outK ps rs [] (Func.results Go.Proofs.Try.f166).toList (mvs [])
noncomputable def K0 : Ex → St → Option Out := endK fin
noncomputable def p (a1 : Arg) : Option Out := (laws_toChangeS.sem (a1.1.2.1, ())).bind fun r2 => (laws_toInt64S.sem (a1.1.2.2.1, ())).bind fun r3 => (laws_toKeyS.sem (a1.1.2.2.2.1, ())).bind fun r4 => some ((a1.1.1, r2.1, r3.1, r4.1, ()), ())
noncomputable def raw (k : Nat) (a1 : Arg) : Option Out := p a1
theorem p_eq (k : Nat) (a1 : Arg) : bodyK E k Go.Proofs.Try.f166 ps rs [] [] a1 = p a1 := by kernel_rfl
theorem raw_eq (k : Nat) (a1 : Arg) : bodyK E k Go.Proofs.Try.f166 ps rs [] [] a1 = raw k a1 := (p_eq k a1).trans (by rfl)
theorem ent : EnterOk Go.Proofs.Try.prog 166 sig.cap := ⟨Go.Proofs.Try.f166, Go.Proofs.Try.func166, by kernel_rfl, by kernel_rfl, by kernel_rfl⟩
theorem env : EnvOk Go.Proofs.Try.prog E := env_ok (tl := [(2, i64), (138, (.slc tChange)), (141, (.slc tChange)), (205, (.slc i64)), (206, (.slc tKey)), (208, tTx), (218, (.slc tKey)), (220, tTx)]) (gl := [(179, laws_toChangeS.sig), (231, laws_toInt64S.sig), (232, laws_toKeyS.sig)]) rfl rfl (by kernel_rfl) (by kernel_rfl) (fn_cons laws_toChangeS.snd laws_toChangeS.ent (fn_cons laws_toInt64S.snd laws_toInt64S.ent (fn_cons laws_toKeyS.snd laws_toKeyS.ent (fn_nil _))))
theorem chk : funOk Go.Proofs.Try.prog E Go.Proofs.Try.f166 ps rs [] = true := by kernel_rfl
theorem snd : Sound Go.Proofs.Try.prog 166 sig := sound_of_body env Go.Proofs.Try.func166 rfl (es := []) (fr := []) chk (fun _ _ h => lift_some h)
end laws_toTx
namespace laws_toTxS
/-! loop example g00408 laws toTxS -/
abbrev Arg : Type := (List Tx) × Unit
abbrev Out : Type := (List Tx) × Unit
noncomputable def ps : List (PM × Ty) := [(.ro, (.slc tTx))]
noncomputable def rs : List (Ty × Md) := [((.slc tTx), (ownMd (.slc tTx)))]
noncomputable def E : Env := { TI := lookN [(29, (.slc tTx)), (117, (.slc tTx)), (208, tTx), (220, tTx)], G := lookN [(166, laws_toTx.sig)], fz := [], lv := [(3, [0, 3, 4])], lx := [(0, [3])], lf := [], od := [] }
noncomputable def sem (a : Arg) : Option Out := lift fun k => bodyK E k Go.Proofs.Try.f75 ps rs [] [] a
noncomputable def sig : Sig := { ps := ps, rs := rs, F := fun a => sem a }
noncomputable def C : Code := bodyOf Go.Proofs.Try.f75
noncomputable def fin : St → Option Out := outK ps rs [] (Func.results Go.Proofs.Try.f75).toList (mvs [])
noncomputable def K0 : Ex → St → Option Out := endK fin
noncomputable def S0 (rec : St → Option Out) (a1 : Arg) : ((List Tx) × Int) → Option Out := fun v402 => rec ({ n := 23, sl := [(0, .val (.slc tTx) a1.1), (3, .own (.slc tTx) (ownMd (.slc tTx)) [] v402.1), (4, .val i64 v402.2)], vr := [], lent := [] })
noncomputable def X0_0 (K : Ex → St → Option Out) (a1 : Arg) : (List Tx) → Option Out := fun z => K (.exit 0) ({ n := 23, sl := [(3, .own (.slc tTx) (ownMd (.slc tTx)) [] z)], vr := [], lent := [] })
noncomputable def b0 (self : ((List Tx) × Int) → Option Out) (e0 : (List Tx) → Option Out) (a1 : Arg) (v402 : (List Tx) × Int) : Option Out := bif decide (v402.2 < (a1.1.length : Int)) then (if 0 ≤ v402.2 then ((a1.1[v402.2.toNat]?).bind fun x603 => (laws_toTx.sem (x603, ())).bind fun r604 => if 0 ≤ v402.2 ∧ v402.2 < (v402.1.length : Int) then ((v402.1[v402.2.toNat]?).bind fun x605 => self (v402.1.set v402.2.toNat r604.1, w64 (v402.2 + (1 : Int)))) else none) else none) else e0 v402.1
noncomputable def B0 (k : Nat) (self : ((List Tx) × Int) → Option Out) (e0 : (List Tx) → Option Out) (a1 : Arg) (v402 : (List Tx) × Int) : Option Out := b0 self e0 a1 v402
theorem b0_eq (k : Nat) (rec : St → Option Out) (K : Ex → St → Option Out) (a1 : Arg) (v402 : (List Tx) × Int) : codeK E k fin (sub [1, 1, 0, 1, 0, 0] C) ({ n := 23, sl := [(0, .val (.slc tTx) a1.1), (3, .own (.slc tTx) (ownMd (.slc tTx)) [] v402.1), (4, .val i64 v402.2)], vr := [], lent := [] }) (loopC rec (keepF [0, 3, 4] []) K) = b0 (S0 rec a1) (X0_0 K a1) a1 v402 := by kernel_rfl
theorem B0_eq (k : Nat) (rec : St → Option Out) (K : Ex → St → Option Out) (a1 : Arg) (v402 : (List Tx) × Int) : codeK E k fin (sub [1, 1, 0, 1, 0, 0] C) ({ n := 23, sl := [(0, .val (.slc tTx) a1.1), (3, .own (.slc tTx) (ownMd (.slc tTx)) [] v402.1), (4, .val i64 v402.2)], vr := [], lent := [] }) (loopC rec (keepF [0, 3, 4] []) K) = B0 k (S0 rec a1) (X0_0 K a1) a1 v402 := (b0_eq k rec K a1 v402).trans (by rfl)
noncomputable def l0 (k : Nat) (a1 : Arg) (e0 : (List Tx) → Option Out) (v : (List Tx) × Int) : Option Out := rawIter (fun self v => B0 k self e0 a1 v) k v
theorem l0_eq (k : Nat) (K : Ex → St → Option Out) (a1 : Arg) (v402 : (List Tx) × Int) : iterK (codeK E k fin (sub [1, 1, 0, 1, 0, 0] C)) (keepF [0, 3, 4] []) K k ({ n := 23, sl := [(0, .val (.slc tTx) a1.1), (3, .own (.slc tTx) (ownMd (.slc tTx)) [] v402.1), (4, .val i64 v402.2)], vr := [], lent := [] }) = l0 k a1 (X0_0 K a1) v402 :=
  iter_raw _ _ K (fun v402 => ({ n := 23, sl := [(0, .val (.slc tTx) a1.1), (3, .own (.slc tTx) (ownMd (.slc tTx)) [] v402.1), (4, .val i64 v402.2)], vr := [], lent := [] } : St)) (fun self v => B0 k self (X0_0 K a1) a1 v) (fun rec v => B0_eq k rec K a1 v) k v402
noncomputable def q0 (a1 : Arg) (z606 : (List Tx)) : Option Out := some (z606, ())
noncomputable def Q0 (k : Nat) (a1 : Arg) (z606 : (List Tx)) : Option Out := q0 a1 z606
theorem q0_eq (k : Nat) (a1 : Arg) (z606 : (List Tx)) : (blockC 0 (seqC (codeK E k fin (sub [1, 1, 1] C)) K0)) (.exit 0) ({ n := 23, sl := [(3, .own (.slc tTx) (ownMd (.slc tTx)) [] z606)], vr := [], lent := [] }) = q0 a1 z606 := by kernel_rfl
theorem Q0_eq (k : Nat) (a1 : Arg) (z606 : (List Tx)) : (blockC 0 (seqC (codeK E k fin (sub [1, 1, 1] C)) K0)) (.exit 0) ({ n := 23, sl := [(3, .own (.slc tTx) (ownMd (.slc tTx)) [] z606)], vr := [], lent := [] }) = Q0 k a1 z606 := (q0_eq k a1 z606).trans (by rfl)
noncomputable def s0 (k : Nat) (a1 : Arg) : ((List Tx) × Int) → Option Out := fun v402 => iterK (codeK E k fin (sub [1, 1, 0, 1, 0, 0] C)) (keepF [0, 3, 4] []) (blockC 0 (seqC (codeK E k fin (sub [1, 1, 1] C)) K0)) k ({ n := 23, sl := [(0, .val (.slc tTx) a1.1), (3, .own (.slc tTx) (ownMd (.slc tTx)) [] v402.1), (4, .val i64 v402.2)], vr := [], lent := [] })
noncomputable def r0 (k : Nat) (a1 : Arg) : ((List Tx) × Int) → Option Out := fun v402 => l0 k a1 (fun z => Q0 k a1 z) v402
theorem s0_eq (k : Nat) (a1 : Arg) : s0 k a1 = r0 k a1 := by
  funext v402;
  have h0 : X0_0 ((blockC 0 (seqC (codeK E k fin (sub [1, 1, 1] C)) K0))) a1 = fun z => Q0 k a1 z := funext fun z => Q0_eq k a1 z
  refine (l0_eq k ((blockC 0 (seqC (codeK E k fin (sub [1, 1, 1] C)) K0))) a1 v402).trans ?_
  rw [h0]
  rfl
noncomputable def p (l0 : ((List Tx) × Int) → Option Out) (a1 : Arg) : Option Out := if 0 ≤ (a1.1.length : Int) ∧ (a1.1.length : Int) ≤ (a1.1.length : Int) ∧ (a1.1.length : Int) ≤ (CAP : Int) then (l0 (List.replicate (a1.1.length : Int).toNat ((0 : Int), ([] : List Change), ([] : List Int), ([] : List Key), ()), (0 : Int))) else none
noncomputable def raw (k : Nat) (a1 : Arg) : Option Out := p (r0 k a1) a1
theorem p_eq (k : Nat) (a1 : Arg) : bodyK E k Go.Proofs.Try.f75 ps rs [] [] a1 = p (s0 k a1) a1 := by kernel_rfl
theorem raw_eq (k : Nat) (a1 : Arg) : bodyK E k Go.Proofs.Try.f75 ps rs [] [] a1 = raw k a1 := (p_eq k a1).trans (by rw [s0_eq]; rfl)
theorem ent : EnterOk Go.Proofs.Try.prog 75 sig.cap := ⟨Go.Proofs.Try.f75, Go.Proofs.Try.func75, by kernel_rfl, by kernel_rfl, by kernel_rfl⟩
theorem env : EnvOk Go.Proofs.Try.prog E := env_ok (tl := [(29, (.slc tTx)), (117, (.slc tTx)), (208, tTx), (220, tTx)]) (gl := [(166, laws_toTx.sig)]) rfl rfl (by kernel_rfl) (by kernel_rfl) (fn_cons laws_toTx.snd laws_toTx.ent (fn_nil _))
theorem chk : funOk Go.Proofs.Try.prog E Go.Proofs.Try.f75 ps rs [] = true := by kernel_rfl
theorem snd : Sound Go.Proofs.Try.prog 75 sig := sound_of_body env Go.Proofs.Try.func75 rfl (es := []) (fr := []) chk (fun _ _ h => lift_some h)
end laws_toTxS
namespace impl_undone
/-! loop example g00408 impl undone -/
abbrev Arg : Type := (List Tx) × Unit
abbrev Out : Type := Int × Unit
noncomputable def ps : List (PM × Ty) := [(.ro, (.slc tTx))]
noncomputable def rs : List (Ty × Md) := [(i64, (roMd i64))]
noncomputable def E : Env := { TI := lookN [(29, (.slc tTx)), (141, (.slc tChange)), (220, tTx)], G := lookN [], fz := [], lv := [(3, [3, 6, 7, 8])], lx := [(0, [3])], lf := [], od := [] }
noncomputable def sem (a : Arg) : Option Out := lift fun k => bodyK E k Go.Proofs.Try.f172 ps rs [] [] a
noncomputable def sig : Sig := { ps := ps, rs := rs, F := fun a => sem a }
noncomputable def C : Code := bodyOf Go.Proofs.Try.f172
noncomputable def fin : St → Option Out := outK ps rs [] (Func.results Go.Proofs.Try.f172).toList (mvs [])
noncomputable def K0 : Ex → St → Option Out := endK fin
noncomputable def S0 (rec : St → Option Out) (a1 : Arg) : (Int × Int) → Option Out := fun v402 => rec ({ n := 19, sl := [(3, .val i64 v402.1), (6, .val (.slc tTx) a1.1), (7, .val i64 (a1.1.length : Int)), (8, .val i64 v402.2)], vr := [], lent := [] })
noncomputable def X0_0 (K : Ex → St → Option Out) (a1 : Arg) : Int → Option Out := fun z => K (.exit 0) ({ n := 19, sl := [(3, .val i64 z)], vr := [], lent := [] })
noncomputable def b0 (self : (Int × Int) → Option Out) (e0 : Int → Option Out) (a1 : Arg) (v402 : Int × Int) : Option Out := bif decide (v402.2 < (a1.1.length : Int)) then (if 0 ≤ v402.2 then ((a1.1[v402.2.toNat]?).bind fun x603 => self (w64 (v402.1 + (x603.2.1.length : Int)), w64 (v402.2 + (1 : Int)))) else none) else e0 v402.1
noncomputable def B0 (k : Nat) (self : (Int × Int) → Option Out) (e0 : Int → Option Out) (a1 : Arg) (v402 : Int × Int) : Option Out := b0 self e0 a1 v402
theorem b0_eq (k : Nat) (rec : St → Option Out) (K : Ex → St → Option Out) (a1 : Arg) (v402 : Int × Int) : codeK E k fin (sub [1, 1, 0, 1, 0, 0] C) ({ n := 19, sl := [(3, .val i64 v402.1), (6, .val (.slc tTx) a1.1), (7, .val i64 (a1.1.length : Int)), (8, .val i64 v402.2)], vr := [], lent := [] }) (loopC rec (keepF [3, 6, 7, 8] []) K) = b0 (S0 rec a1) (X0_0 K a1) a1 v402 := by kernel_rfl
theorem B0_eq (k : Nat) (rec : St → Option Out) (K : Ex → St → Option Out) (a1 : Arg) (v402 : Int × Int) : codeK E k fin (sub [1, 1, 0, 1, 0, 0] C) ({ n := 19, sl := [(3, .val i64 v402.1), (6, .val (.slc tTx) a1.1), (7, .val i64 (a1.1.length : Int)), (8, .val i64 v402.2)], vr := [], lent := [] }) (loopC rec (keepF [3, 6, 7, 8] []) K) = B0 k (S0 rec a1) (X0_0 K a1) a1 v402 := (b0_eq k rec K a1 v402).trans (by rfl)
noncomputable def l0 (k : Nat) (a1 : Arg) (e0 : Int → Option Out) (v : Int × Int) : Option Out := rawIter (fun self v => B0 k self e0 a1 v) k v
theorem l0_eq (k : Nat) (K : Ex → St → Option Out) (a1 : Arg) (v402 : Int × Int) : iterK (codeK E k fin (sub [1, 1, 0, 1, 0, 0] C)) (keepF [3, 6, 7, 8] []) K k ({ n := 19, sl := [(3, .val i64 v402.1), (6, .val (.slc tTx) a1.1), (7, .val i64 (a1.1.length : Int)), (8, .val i64 v402.2)], vr := [], lent := [] }) = l0 k a1 (X0_0 K a1) v402 :=
  iter_raw _ _ K (fun v402 => ({ n := 19, sl := [(3, .val i64 v402.1), (6, .val (.slc tTx) a1.1), (7, .val i64 (a1.1.length : Int)), (8, .val i64 v402.2)], vr := [], lent := [] } : St)) (fun self v => B0 k self (X0_0 K a1) a1 v) (fun rec v => B0_eq k rec K a1 v) k v402
noncomputable def q0 (a1 : Arg) (z604 : Int) : Option Out := some (z604, ())
noncomputable def Q0 (k : Nat) (a1 : Arg) (z604 : Int) : Option Out := q0 a1 z604
theorem q0_eq (k : Nat) (a1 : Arg) (z604 : Int) : (blockC 0 (seqC (codeK E k fin (sub [1, 1, 1] C)) K0)) (.exit 0) ({ n := 19, sl := [(3, .val i64 z604)], vr := [], lent := [] }) = q0 a1 z604 := by kernel_rfl
theorem Q0_eq (k : Nat) (a1 : Arg) (z604 : Int) : (blockC 0 (seqC (codeK E k fin (sub [1, 1, 1] C)) K0)) (.exit 0) ({ n := 19, sl := [(3, .val i64 z604)], vr := [], lent := [] }) = Q0 k a1 z604 := (q0_eq k a1 z604).trans (by rfl)
noncomputable def s0 (k : Nat) (a1 : Arg) : (Int × Int) → Option Out := fun v402 => iterK (codeK E k fin (sub [1, 1, 0, 1, 0, 0] C)) (keepF [3, 6, 7, 8] []) (blockC 0 (seqC (codeK E k fin (sub [1, 1, 1] C)) K0)) k ({ n := 19, sl := [(3, .val i64 v402.1), (6, .val (.slc tTx) a1.1), (7, .val i64 (a1.1.length : Int)), (8, .val i64 v402.2)], vr := [], lent := [] })
noncomputable def r0 (k : Nat) (a1 : Arg) : (Int × Int) → Option Out := fun v402 => l0 k a1 (fun z => Q0 k a1 z) v402
theorem s0_eq (k : Nat) (a1 : Arg) : s0 k a1 = r0 k a1 := by
  funext v402;
  have h0 : X0_0 ((blockC 0 (seqC (codeK E k fin (sub [1, 1, 1] C)) K0))) a1 = fun z => Q0 k a1 z := funext fun z => Q0_eq k a1 z
  refine (l0_eq k ((blockC 0 (seqC (codeK E k fin (sub [1, 1, 1] C)) K0))) a1 v402).trans ?_
  rw [h0]
  rfl
noncomputable def p (l0 : (Int × Int) → Option Out) (a1 : Arg) : Option Out := l0 ((0 : Int), (0 : Int))
noncomputable def raw (k : Nat) (a1 : Arg) : Option Out := p (r0 k a1) a1
theorem p_eq (k : Nat) (a1 : Arg) : bodyK E k Go.Proofs.Try.f172 ps rs [] [] a1 = p (s0 k a1) a1 := by kernel_rfl
theorem raw_eq (k : Nat) (a1 : Arg) : bodyK E k Go.Proofs.Try.f172 ps rs [] [] a1 = raw k a1 := (p_eq k a1).trans (by rw [s0_eq]; rfl)
theorem ent : EnterOk Go.Proofs.Try.prog 172 sig.cap := ⟨Go.Proofs.Try.f172, Go.Proofs.Try.func172, by kernel_rfl, by kernel_rfl, by kernel_rfl⟩
theorem env : EnvOk Go.Proofs.Try.prog E := env_ok (tl := [(29, (.slc tTx)), (141, (.slc tChange)), (220, tTx)]) (gl := []) rfl rfl (by kernel_rfl) (by kernel_rfl) (fn_nil _)
theorem chk : funOk Go.Proofs.Try.prog E Go.Proofs.Try.f172 ps rs [] = true := by kernel_rfl
theorem snd : Sound Go.Proofs.Try.prog 172 sig := sound_of_body env Go.Proofs.Try.func172 rfl (es := []) (fr := []) chk (fun _ _ h => lift_some h)
end impl_undone
namespace impl_Change_lock
/-!  loop example g00408 impl Change  lock -/
abbrev Arg : Type := Change × Unit
abbrev Out : Type := Key × Unit
noncomputable def ps : List (PM × Ty) := [(.ro, tChange)]
noncomputable def rs : List (Ty × Md) := [(tKey, (roMd tKey))]
noncomputable def E : Env := { TI := lookN [(128, tRow), (130, tChange), (214, tKey)], G := lookN [(237, impl_Change_key.sig)], fz := [], lv := [], lx := [], lf := [], od := [(1, [0, 3, 1, 2, 4, 5, 6, 7])] }
noncomputable def sem (a : Arg) : Option Out := lift fun k => bodyK E k Go.Proofs.Try.f171 ps rs [] [] a
noncomputable def sig : Sig := { ps := ps, rs := rs, F := fun a => sem a }
noncomputable def C : Code := bodyOf Go.Proofs.Try.f171
noncomputable def fin : St → Option Out := outK ps rs [] (Func.results Go.Proofs.Try.f171).toList (mvs [])
noncomputable def K0 : Ex → St → Option Out := endK fin
noncomputable def p (a1 : Arg) : Option Out := (impl_Change_key.sem (a1.1, ())).bind fun r2 => (impl_Change_key.sem (a1.1, ())).bind fun r3 => some ((r2.1.1, r3.1.2.1, ()), ())
noncomputable def raw (k : Nat) (a1 : Arg) : Option Out := p a1
theorem p_eq (k : Nat) (a1 : Arg) : bodyK E k Go.Proofs.Try.f171 ps rs [] [] a1 = p a1 := by kernel_rfl
theorem raw_eq (k : Nat) (a1 : Arg) : bodyK E k Go.Proofs.Try.f171 ps rs [] [] a1 = raw k a1 := (p_eq k a1).trans (by rfl)
theorem ent : EnterOk Go.Proofs.Try.prog 171 sig.cap := ⟨Go.Proofs.Try.f171, Go.Proofs.Try.func171, by kernel_rfl, by kernel_rfl, by kernel_rfl⟩
theorem env : EnvOk Go.Proofs.Try.prog E := env_ok (tl := [(128, tRow), (130, tChange), (214, tKey)]) (gl := [(237, impl_Change_key.sig)]) rfl rfl (by kernel_rfl) (by kernel_rfl) (fn_cons impl_Change_key.snd impl_Change_key.ent (fn_nil _))
theorem chk : funOk Go.Proofs.Try.prog E Go.Proofs.Try.f171 ps rs [] = true := by kernel_rfl
theorem snd : Sound Go.Proofs.Try.prog 171 sig := sound_of_body env Go.Proofs.Try.func171 rfl (es := []) (fr := []) chk (fun _ _ h => lift_some h)
end impl_Change_lock
namespace slices_Index
/-! slices Index   loop example g00408 impl Key loop example g00408 impl Key  -/
abbrev Arg : Type := (List Key) × Key × Unit
abbrev Out : Type := Int × Unit
noncomputable def ps : List (PM × Ty) := [(.ro, (.slc tKey)), (.ro, tKey)]
noncomputable def rs : List (Ty × Md) := [(i64, (roMd i64))]
noncomputable def E : Env := { TI := lookN [(214, tKey), (218, (.slc tKey))], G := lookN [], fz := [], lv := [(2, [0, 3, 7, 8])], lx := [(0, [])], lf := [], od := [(4, [0, 1, 2, 3, 4, 5])] }
noncomputable def sem (a : Arg) : Option Out := lift fun k => bodyK E k Go.Proofs.Try.f269 ps rs [] [] a
noncomputable def sig : Sig := { ps := ps, rs := rs, F := fun a => sem a }
noncomputable def C : Code := bodyOf Go.Proofs.Try.f269
noncomputable def fin : St → Option Out := outK ps rs [] (Func.results Go.Proofs.Try.f269).toList (mvs [])
noncomputable def K0 : Ex → St → Option Out := endK fin
noncomputable def S0 (rec : St → Option Out) (a1 : Arg) : (Int) → Option Out := fun v402 => rec ({ n := 19, sl := [(0, .val (.slc tKey) a1.1), (3, .box tKey (roMd tKey) [] a1.2.1), (7, .val i64 (a1.1.length : Int)), (8, .val i64 v402)], vr := [], lent := [] })
noncomputable def X0_0 (K : Ex → St → Option Out) (a1 : Arg) : (Unit) → Option Out := fun z => K (.exit 0) ({ n := 19, sl := [], vr := [], lent := [] })
noncomputable def b0 (self : Int → Option Out) (e0 : (Unit) → Option Out) (a1 : Arg) (v402 : Int) : Option Out := bif decide (v402 < (a1.1.length : Int)) then (if 0 ≤ v402 then ((a1.1[v402.toNat]?).bind fun x603 => bif (Ty.eq tKey a1.2.1 x603) then (some (v402, ())) else self (w64 (v402 + (1 : Int)))) else none) else e0 ()
noncomputable def B0 (k : Nat) (self : Int → Option Out) (e0 : (Unit) → Option Out) (a1 : Arg) (v402 : Int) : Option Out := b0 self e0 a1 v402
theorem b0_eq (k : Nat) (rec : St → Option Out) (K : Ex → St → Option Out) (a1 : Arg) (v402 : Int) : codeK E k fin (sub [1, 0, 1, 0, 0] C) ({ n := 19, sl := [(0, .val (.slc tKey) a1.1), (3, .box tKey (roMd tKey) [] a1.2.1), (7, .val i64 (a1.1.length : Int)), (8, .val i64 v402)], vr := [], lent := [] }) (loopC rec (keepF [0, 3, 7, 8] []) K) = b0 (S0 rec a1) (X0_0 K a1) a1 v402 := by kernel_rfl
theorem B0_eq (k : Nat) (rec : St → Option Out) (K : Ex → St → Option Out) (a1 : Arg) (v402 : Int) : codeK E k fin (sub [1, 0, 1, 0, 0] C) ({ n := 19, sl := [(0, .val (.slc tKey) a1.1), (3, .box tKey (roMd tKey) [] a1.2.1), (7, .val i64 (a1.1.length : Int)), (8, .val i64 v402)], vr := [], lent := [] }) (loopC rec (keepF [0, 3, 7, 8] []) K) = B0 k (S0 rec a1) (X0_0 K a1) a1 v402 := (b0_eq k rec K a1 v402).trans (by rfl)
noncomputable def l0 (k : Nat) (a1 : Arg) (e0 : (Unit) → Option Out) (v : Int) : Option Out := rawIter (fun self v => B0 k self e0 a1 v) k v
theorem l0_eq (k : Nat) (K : Ex → St → Option Out) (a1 : Arg) (v402 : Int) : iterK (codeK E k fin (sub [1, 0, 1, 0, 0] C)) (keepF [0, 3, 7, 8] []) K k ({ n := 19, sl := [(0, .val (.slc tKey) a1.1), (3, .box tKey (roMd tKey) [] a1.2.1), (7, .val i64 (a1.1.length : Int)), (8, .val i64 v402)], vr := [], lent := [] }) = l0 k a1 (X0_0 K a1) v402 :=
  iter_raw _ _ K (fun v402 => ({ n := 19, sl := [(0, .val (.slc tKey) a1.1), (3, .box tKey (roMd tKey) [] a1.2.1), (7, .val i64 (a1.1.length : Int)), (8, .val i64 v402)], vr := [], lent := [] } : St)) (fun self v => B0 k self (X0_0 K a1) a1 v) (fun rec v => B0_eq k rec K a1 v) k v402
noncomputable def q0 (a1 : Arg) (z604 : (Unit)) : Option Out := some ((-1 : Int), ())
noncomputable def Q0 (k : Nat) (a1 : Arg) (z604 : (Unit)) : Option Out := q0 a1 z604
theorem q0_eq (k : Nat) (a1 : Arg) (z604 : (Unit)) : (blockC 0 (seqC (codeK E k fin (sub [1, 1] C)) K0)) (.exit 0) ({ n := 19, sl := [], vr := [], lent := [] }) = q0 a1 z604 := by kernel_rfl
theorem Q0_eq (k : Nat) (a1 : Arg) (z604 : (Unit)) : (blockC 0 (seqC (codeK E k fin (sub [1, 1] C)) K0)) (.exit 0) ({ n := 19, sl := [], vr := [], lent := [] }) = Q0 k a1 z604 := (q0_eq k a1 z604).trans (by rfl)
noncomputable def s0 (k : Nat) (a1 : Arg) : (Int) → Option Out := fun v402 => iterK (codeK E k fin (sub [1, 0, 1, 0, 0] C)) (keepF [0, 3, 7, 8] []) (blockC 0 (seqC (codeK E k fin (sub [1, 1] C)) K0)) k ({ n := 19, sl := [(0, .val (.slc tKey) a1.1), (3, .box tKey (roMd tKey) [] a1.2.1), (7, .val i64 (a1.1.length : Int)), (8, .val i64 v402)], vr := [], lent := [] })
noncomputable def r0 (k : Nat) (a1 : Arg) : (Int) → Option Out := fun v402 => l0 k a1 (fun z => Q0 k a1 z) v402
theorem s0_eq (k : Nat) (a1 : Arg) : s0 k a1 = r0 k a1 := by
  funext v402;
  have h0 : X0_0 ((blockC 0 (seqC (codeK E k fin (sub [1, 1] C)) K0))) a1 = fun z => Q0 k a1 z := funext fun z => Q0_eq k a1 z
  refine (l0_eq k ((blockC 0 (seqC (codeK E k fin (sub [1, 1] C)) K0))) a1 v402).trans ?_
  rw [h0]
  rfl
noncomputable def p (l0 : (Int) → Option Out) (a1 : Arg) : Option Out := l0 (0 : Int)
noncomputable def raw (k : Nat) (a1 : Arg) : Option Out := p (r0 k a1) a1
theorem p_eq (k : Nat) (a1 : Arg) : bodyK E k Go.Proofs.Try.f269 ps rs [] [] a1 = p (s0 k a1) a1 := by kernel_rfl
theorem raw_eq (k : Nat) (a1 : Arg) : bodyK E k Go.Proofs.Try.f269 ps rs [] [] a1 = raw k a1 := (p_eq k a1).trans (by rw [s0_eq]; rfl)
theorem ent : EnterOk Go.Proofs.Try.prog 269 sig.cap := ⟨Go.Proofs.Try.f269, Go.Proofs.Try.func269, by kernel_rfl, by kernel_rfl, by kernel_rfl⟩
theorem env : EnvOk Go.Proofs.Try.prog E := env_ok (tl := [(214, tKey), (218, (.slc tKey))]) (gl := []) rfl rfl (by kernel_rfl) (by kernel_rfl) (fn_nil _)
theorem chk : funOk Go.Proofs.Try.prog E Go.Proofs.Try.f269 ps rs [] = true := by kernel_rfl
theorem snd : Sound Go.Proofs.Try.prog 269 sig := sound_of_body env Go.Proofs.Try.func269 rfl (es := []) (fr := []) chk (fun _ _ h => lift_some h)
end slices_Index
namespace slices_Contains
/-! slices Contains   loop example g00408 impl Key loop example g00408 impl Key  -/
abbrev Arg : Type := (List Key) × Key × Unit
abbrev Out : Type := Bool × Unit
noncomputable def ps : List (PM × Ty) := [(.ro, (.slc tKey)), (.ro, tKey)]
noncomputable def rs : List (Ty × Md) := [(.bool, (roMd .bool))]
noncomputable def E : Env := { TI := lookN [(214, tKey)], G := lookN [(269, slices_Index.sig)], fz := [], lv := [], lx := [], lf := [], od := [] }
noncomputable def sem (a : Arg) : Option Out := lift fun k => bodyK E k Go.Proofs.Try.f236 ps rs [] [] a
noncomputable def sig : Sig := { ps := ps, rs := rs, F := fun a => sem a }
noncomputable def C : Code := bodyOf Go.Proofs.Try.f236
noncomputable def fin : St → Option Out := outK ps rs [] (Func.results Go.Proofs.Try.f236).toList (mvs [])
noncomputable def K0 : Ex → St → Option Out := endK fin
noncomputable def p (a1 : Arg) : Option Out := (slices_Index.sem (a1.1, a1.2.1, ())).bind fun r2 => some (decide ((0 : Int) ≤ r2.1), ())
noncomputable def raw (k : Nat) (a1 : Arg) : Option Out := p a1
theorem p_eq (k : Nat) (a1 : Arg) : bodyK E k Go.Proofs.Try.f236 ps rs [] [] a1 = p a1 := by kernel_rfl
theorem raw_eq (k : Nat) (a1 : Arg) : bodyK E k Go.Proofs.Try.f236 ps rs [] [] a1 = raw k a1 := (p_eq k a1).trans (by rfl)
theorem ent : EnterOk Go.Proofs.Try.prog 236 sig.cap := ⟨Go.Proofs.Try.f236, Go.Proofs.Try.func236, by kernel_rfl, by kernel_rfl, by kernel_rfl⟩
theorem env : EnvOk Go.Proofs.Try.prog E := env_ok (tl := [(214, tKey)]) (gl := [(269, slices_Index.sig)]) rfl rfl (by kernel_rfl) (by kernel_rfl) (fn_cons slices_Index.snd slices_Index.ent (fn_nil _))
theorem chk : funOk Go.Proofs.Try.prog E Go.Proofs.Try.f236 ps rs [] = true := by kernel_rfl
theorem snd : Sound Go.Proofs.Try.prog 236 sig := sound_of_body env Go.Proofs.Try.func236 rfl (es := []) (fr := []) chk (fun _ _ h => lift_some h)
end slices_Contains
namespace impl_isKey
/-! loop example g00408 impl isKey -/
abbrev Arg : Type := Int × Int × Unit
abbrev Out : Type := Bool × Unit
noncomputable def ps : List (PM × Ty) := [(.ro, i64), (.ro, i64)]
noncomputable def rs : List (Ty × Md) := [(.bool, (roMd .bool))]
noncomputable def E : Env := { TI := lookN [], G := lookN [(91, impl_in.sig)], fz := [], lv := [], lx := [], lf := [], od := [] }
noncomputable def sem (a : Arg) : Option Out := lift fun k => bodyK E k Go.Proofs.Try.f268 ps rs [] [] a
noncomputable def sig : Sig := { ps := ps, rs := rs, F := fun a => sem a }
noncomputable def C : Code := bodyOf Go.Proofs.Try.f268
noncomputable def fin : St → Option Out := outK ps rs [] (Func.results Go.Proofs.Try.f268).toList (mvs [])
noncomputable def K0 : Ex → St → Option Out := endK fin
noncomputable def p (a1 : Arg) : Option Out := (impl_in.sem (a1.1, (0 : Int), (3 : Int), ())).bind fun r2 => bif r2.1 then ((impl_in.sem (a1.2.1, (1 : Int), (99 : Int), ())).bind fun r3 => some (r3.1, ())) else some (false, ())
noncomputable def raw (k : Nat) (a1 : Arg) : Option Out := p a1
theorem p_eq (k : Nat) (a1 : Arg) : bodyK E k Go.Proofs.Try.f268 ps rs [] [] a1 = p a1 := by kernel_rfl
theorem raw_eq (k : Nat) (a1 : Arg) : bodyK E k Go.Proofs.Try.f268 ps rs [] [] a1 = raw k a1 := (p_eq k a1).trans (by rfl)
theorem ent : EnterOk Go.Proofs.Try.prog 268 sig.cap := ⟨Go.Proofs.Try.f268, Go.Proofs.Try.func268, by kernel_rfl, by kernel_rfl, by kernel_rfl⟩
theorem env : EnvOk Go.Proofs.Try.prog E := env_ok (tl := []) (gl := [(91, impl_in.sig)]) rfl rfl (by kernel_rfl) (by kernel_rfl) (fn_cons impl_in.snd impl_in.ent (fn_nil _))
theorem chk : funOk Go.Proofs.Try.prog E Go.Proofs.Try.f268 ps rs [] = true := by kernel_rfl
theorem snd : Sound Go.Proofs.Try.prog 268 sig := sound_of_body env Go.Proofs.Try.func268 rfl (es := []) (fr := []) chk (fun _ _ h => lift_some h)
end impl_isKey
namespace impl_txFault
/-! loop example g00408 impl txFault -/
abbrev Arg : Type := Tx × Unit
abbrev Out : Type := Int × Unit
noncomputable def ps : List (PM × Ty) := [(.ro, tTx)]
noncomputable def rs : List (Ty × Md) := [(i64, (roMd i64))]
noncomputable def E : Env := { TI := lookN [(2, i64), (130, tChange), (141, (.slc tChange)), (205, (.slc i64)), (214, tKey), (218, (.slc tKey)), (220, tTx)], G := lookN [(91, impl_in.sig), (169, impl_singleFault.sig), (171, impl_Change_lock.sig), (236, slices_Contains.sig), (268, impl_isKey.sig)], fz := [], lv := [(2, [1, 12, 13, 14]), (14, [1, 6, 41, 42, 43]), (21, [1, 57, 58, 59])], lx := [(0, [1]), (2, [1]), (4, [])], lf := [], od := [(7, [0, 1, 2, 3, 4, 5]), (25, [0, 1, 2, 3, 4, 5])] }
noncomputable def sem (a : Arg) : Option Out := lift fun k => bodyK E k Go.Proofs.Try.f233 ps rs [] [] a
noncomputable def sig : Sig := { ps := ps, rs := rs, F := fun a => sem a }
noncomputable def C : Code := bodyOf Go.Proofs.Try.f233
noncomputable def fin : St → Option Out := outK ps rs [] (Func.results Go.Proofs.Try.f233).toList (mvs [])
noncomputable def K0 : Ex → St → Option Out := endK fin
noncomputable def S0 (rec : St → Option Out) (a1 : Arg) : (Int) → Option Out := fun v402 => rec ({ n := 77, sl := [(1, .box tTx (roMd tTx) [] a1.1), (12, .val (.slc tChange) a1.1.2.1), (13, .val i64 (a1.1.2.1.length : Int)), (14, .val i64 v402)], vr := [], lent := [] })
noncomputable def X0_0 (K : Ex → St → Option Out) (a1 : Arg) : (Unit) → Option Out := fun z => K (.exit 0) ({ n := 77, sl := [(1, .box tTx (roMd tTx) [] a1.1)], vr := [], lent := [] })
noncomputable def b0 (self : Int → Option Out) (e0 : (Unit) → Option Out) (a1 : Arg) (v402 : Int) : Option Out := bif decide (v402 < (a1.1.2.1.length : Int)) then (if 0 ≤ v402 then ((a1.1.2.1[v402.toNat]?).bind fun x603 => (impl_singleFault.sem (x603, ())).bind fun r604 => bif !decide (r604.1 = (0 : Int)) then (some (r604.1, ())) else (impl_Change_lock.sem (x603, ())).bind fun r605 => (slices_Contains.sem (a1.1.2.2.2.1, r605.1, ())).bind fun r606 => bif !r606.1 then (some ((8 : Int), ())) else self (w64 (v402 + (1 : Int)))) else none) else e0 ()
noncomputable def B0 (k : Nat) (self : Int → Option Out) (e0 : (Unit) → Option Out) (a1 : Arg) (v402 : Int) : Option Out := b0 self e0 a1 v402
theorem b0_eq (k : Nat) (rec : St → Option Out) (K : Ex → St → Option Out) (a1 : Arg) (v402 : Int) : codeK E k fin (sub [1, 0, 1, 0, 0] C) ({ n := 77, sl := [(1, .box tTx (roMd tTx) [] a1.1), (12, .val (.slc tChange) a1.1.2.1), (13, .val i64 (a1.1.2.1.length : Int)), (14, .val i64 v402)], vr := [], lent := [] }) (loopC rec (keepF [1, 12, 13, 14] []) K) = b0 (S0 rec a1) (X0_0 K a1) a1 v402 := by kernel_rfl
theorem B0_eq (k : Nat) (rec : St → Option Out) (K : Ex → St → Option Out) (a1 : Arg) (v402 : Int) : codeK E k fin (sub [1, 0, 1, 0, 0] C) ({ n := 77, sl := [(1, .box tTx (roMd tTx) [] a1.1), (12, .val (.slc tChange) a1.1.2.1), (13, .val i64 (a1.1.2.1.length : Int)), (14, .val i64 v402)], vr := [], lent := [] }) (loopC rec (keepF [1, 12, 13, 14] []) K) = B0 k (S0 rec a1) (X0_0 K a1) a1 v402 := (b0_eq k rec K a1 v402).trans (by rfl)
noncomputable def l0 (k : Nat) (a1 : Arg) (e0 : (Unit) → Option Out) (v : Int) : Option Out := rawIter (fun self v => B0 k self e0 a1 v) k v
theorem l0_eq (k : Nat) (K : Ex → St → Option Out) (a1 : Arg) (v402 : Int) : iterK (codeK E k fin (sub [1, 0, 1, 0, 0] C)) (keepF [1, 12, 13, 14] []) K k ({ n := 77, sl := [(1, .box tTx (roMd tTx) [] a1.1), (12, .val (.slc tChange) a1.1.2.1), (13, .val i64 (a1.1.2.1.length : Int)), (14, .val i64 v402)], vr := [], lent := [] }) = l0 k a1 (X0_0 K a1) v402 :=
  iter_raw _ _ K (fun v402 => ({ n := 77, sl := [(1, .box tTx (roMd tTx) [] a1.1), (12, .val (.slc tChange) a1.1.2.1), (13, .val i64 (a1.1.2.1.length : Int)), (14, .val i64 v402)], vr := [], lent := [] } : St)) (fun self v => B0 k self (X0_0 K a1) a1 v) (fun rec v => B0_eq k rec K a1 v) k v402
noncomputable def S1 (rec : St → Option Out) (a1 : Arg) : (Int × Int) → Option Out := fun v1008 => rec ({ n := 77, sl := [(1, .box tTx (roMd tTx) [] a1.1), (6, .val i64 v1008.1), (41, .val (.slc i64) a1.1.2.2.1), (42, .val i64 (a1.1.2.2.1.length : Int)), (43, .val i64 v1008.2)], vr := [], lent := [] })
noncomputable def X1_2 (K : Ex → St → Option Out) (a1 : Arg) : (Unit) → Option Out := fun z => K (.exit 2) ({ n := 77, sl := [(1, .box tTx (roMd tTx) [] a1.1)], vr := [], lent := [] })
noncomputable def b1 (self : (Int × Int) → Option Out) (e2 : (Unit) → Option Out) (a1 : Arg) (v1008 : Int × Int) : Option Out := bif decide (v1008.2 < (a1.1.2.2.1.length : Int)) then (if 0 ≤ v1008.2 then ((a1.1.2.2.1[v1008.2.toNat]?).bind fun x1209 => (impl_in.sem (x1209, v1008.1, (a1.1.2.1.length : Int), ())).bind fun r1210 => bif !r1210.1 then (some ((3 : Int), ())) else self (x1209, w64 (v1008.2 + (1 : Int)))) else none) else e2 ()
noncomputable def B1 (k : Nat) (self : (Int × Int) → Option Out) (e2 : (Unit) → Option Out) (a1 : Arg) (v1008 : Int × Int) : Option Out := b1 self e2 a1 v1008
theorem b1_eq (k : Nat) (rec : St → Option Out) (K : Ex → St → Option Out) (a1 : Arg) (v1008 : Int × Int) : codeK E k fin (sub [1, 1, 1, 1, 0, 1, 0, 0] C) ({ n := 77, sl := [(1, .box tTx (roMd tTx) [] a1.1), (6, .val i64 v1008.1), (41, .val (.slc i64) a1.1.2.2.1), (42, .val i64 (a1.1.2.2.1.length : Int)), (43, .val i64 v1008.2)], vr := [], lent := [] }) (loopC rec (keepF [1, 6, 41, 42, 43] []) K) = b1 (S1 rec a1) (X1_2 K a1) a1 v1008 := by kernel_rfl
theorem B1_eq (k : Nat) (rec : St → Option Out) (K : Ex → St → Option Out) (a1 : Arg) (v1008 : Int × Int) : codeK E k fin (sub [1, 1, 1, 1, 0, 1, 0, 0] C) ({ n := 77, sl := [(1, .box tTx (roMd tTx) [] a1.1), (6, .val i64 v1008.1), (41, .val (.slc i64) a1.1.2.2.1), (42, .val i64 (a1.1.2.2.1.length : Int)), (43, .val i64 v1008.2)], vr := [], lent := [] }) (loopC rec (keepF [1, 6, 41, 42, 43] []) K) = B1 k (S1 rec a1) (X1_2 K a1) a1 v1008 := (b1_eq k rec K a1 v1008).trans (by rfl)
noncomputable def l1 (k : Nat) (a1 : Arg) (e2 : (Unit) → Option Out) (v : Int × Int) : Option Out := rawIter (fun self v => B1 k self e2 a1 v) k v
theorem l1_eq (k : Nat) (K : Ex → St → Option Out) (a1 : Arg) (v1008 : Int × Int) : iterK (codeK E k fin (sub [1, 1, 1, 1, 0, 1, 0, 0] C)) (keepF [1, 6, 41, 42, 43] []) K k ({ n := 77, sl := [(1, .box tTx (roMd tTx) [] a1.1), (6, .val i64 v1008.1), (41, .val (.slc i64) a1.1.2.2.1), (42, .val i64 (a1.1.2.2.1.length : Int)), (43, .val i64 v1008.2)], vr := [], lent := [] }) = l1 k a1 (X1_2 K a1) v1008 :=
  iter_raw _ _ K (fun v1008 => ({ n := 77, sl := [(1, .box tTx (roMd tTx) [] a1.1), (6, .val i64 v1008.1), (41, .val (.slc i64) a1.1.2.2.1), (42, .val i64 (a1.1.2.2.1.length : Int)), (43, .val i64 v1008.2)], vr := [], lent := [] } : St)) (fun self v => B1 k self (X1_2 K a1) a1 v) (fun rec v => B1_eq k rec K a1 v) k v1008
noncomputable def S2 (rec : St → Option Out) (a1 : Arg) : (Int) → Option Out := fun v1612 => rec ({ n := 77, sl := [(1, .box tTx (roMd tTx) [] a1.1), (57, .val (.slc tKey) a1.1.2.2.2.1), (58, .val i64 (a1.1.2.2.2.1.length : Int)), (59, .val i64 v1612)], vr := [], lent := [] })
noncomputable def X2_4 (K : Ex → St → Option Out) (a1 : Arg) : (Unit) → Option Out := fun z => K (.exit 4) ({ n := 77, sl := [], vr := [], lent := [] })
noncomputable def b2 (self : Int → Option Out) (e4 : (Unit) → Option Out) (a1 : Arg) (v1612 : Int) : Option Out := bif decide (v1612 < (a1.1.2.2.2.1.length : Int)) then (if 0 ≤ v1612 then ((a1.1.2.2.2.1[v1612.toNat]?).bind fun x1813 => (impl_isKey.sem (x1813.1, x1813.2.1, ())).bind fun r1814 => bif !r1814.1 then (some ((3 : Int), ())) else if 0 ≤ v1612 ∧ v1612 ≤ (a1.1.2.2.2.1.length : Int) then ((slices_Contains.sem ((a1.1.2.2.2.1.take v1612.toNat).drop 0, x1813, ())).bind fun r1815 => bif r1815.1 then (some ((6 : Int), ())) else self (w64 (v1612 + (1 : Int)))) else none) else none) else e4 ()
noncomputable def B2 (k : Nat) (self : Int → Option Out) (e4 : (Unit) → Option Out) (a1 : Arg) (v1612 : Int) : Option Out := b2 self e4 a1 v1612
theorem b2_eq (k : Nat) (rec : St → Option Out) (K : Ex → St → Option Out) (a1 : Arg) (v1612 : Int) : codeK E k fin (sub [1, 1, 1, 1, 1, 0, 1, 0, 0] C) ({ n := 77, sl := [(1, .box tTx (roMd tTx) [] a1.1), (57, .val (.slc tKey) a1.1.2.2.2.1), (58, .val i64 (a1.1.2.2.2.1.length : Int)), (59, .val i64 v1612)], vr := [], lent := [] }) (loopC rec (keepF [1, 57, 58, 59] []) K) = b2 (S2 rec a1) (X2_4 K a1) a1 v1612 := by kernel_rfl
theorem B2_eq (k : Nat) (rec : St → Option Out) (K : Ex → St → Option Out) (a1 : Arg) (v1612 : Int) : codeK E k fin (sub [1, 1, 1, 1, 1, 0, 1, 0, 0] C) ({ n := 77, sl := [(1, .box tTx (roMd tTx) [] a1.1), (57, .val (.slc tKey) a1.1.2.2.2.1), (58, .val i64 (a1.1.2.2.2.1.length : Int)), (59, .val i64 v1612)], vr := [], lent := [] }) (loopC rec (keepF [1, 57, 58, 59] []) K) = B2 k (S2 rec a1) (X2_4 K a1) a1 v1612 := (b2_eq k rec K a1 v1612).trans (by rfl)
noncomputable def l2 (k : Nat) (a1 : Arg) (e4 : (Unit) → Option Out) (v : Int) : Option Out := rawIter (fun self v => B2 k self e4 a1 v) k v
theorem l2_eq (k : Nat) (K : Ex → St → Option Out) (a1 : Arg) (v1612 : Int) : iterK (codeK E k fin (sub [1, 1, 1, 1, 1, 0, 1, 0, 0] C)) (keepF [1, 57, 58, 59] []) K k ({ n := 77, sl := [(1, .box tTx (roMd tTx) [] a1.1), (57, .val (.slc tKey) a1.1.2.2.2.1), (58, .val i64 (a1.1.2.2.2.1.length : Int)), (59, .val i64 v1612)], vr := [], lent := [] }) = l2 k a1 (X2_4 K a1) v1612 :=
  iter_raw _ _ K (fun v1612 => ({ n := 77, sl := [(1, .box tTx (roMd tTx) [] a1.1), (57, .val (.slc tKey) a1.1.2.2.2.1), (58, .val i64 (a1.1.2.2.2.1.length : Int)), (59, .val i64 v1612)], vr := [], lent := [] } : St)) (fun self v => B2 k self (X2_4 K a1) a1 v) (fun rec v => B2_eq k rec K a1 v) k v1612
noncomputable def q2 (a1 : Arg) (z1816 : (Unit)) : Option Out := some ((0 : Int), ())
noncomputable def Q2 (k : Nat) (a1 : Arg) (z1816 : (Unit)) : Option Out := q2 a1 z1816
theorem q2_eq (k : Nat) (a1 : Arg) (z1816 : (Unit)) : (blockC 4 (seqC (codeK E k fin (sub [1, 1, 1, 1, 1, 1] C)) K0)) (.exit 4) ({ n := 77, sl := [], vr := [], lent := [] }) = q2 a1 z1816 := by kernel_rfl
theorem Q2_eq (k : Nat) (a1 : Arg) (z1816 : (Unit)) : (blockC 4 (seqC (codeK E k fin (sub [1, 1, 1, 1, 1, 1] C)) K0)) (.exit 4) ({ n := 77, sl := [], vr := [], lent := [] }) = Q2 k a1 z1816 := (q2_eq k a1 z1816).trans (by rfl)
noncomputable def s2 (k : Nat) (a1 : Arg) : (Int) → Option Out := fun v1612 => iterK (codeK E k fin (sub [1, 1, 1, 1, 1, 0, 1, 0, 0] C)) (keepF [1, 57, 58, 59] []) (blockC 4 (seqC (codeK E k fin (sub [1, 1, 1, 1, 1, 1] C)) K0)) k ({ n := 77, sl := [(1, .box tTx (roMd tTx) [] a1.1), (57, .val (.slc tKey) a1.1.2.2.2.1), (58, .val i64 (a1.1.2.2.2.1.length : Int)), (59, .val i64 v1612)], vr := [], lent := [] })
noncomputable def r2 (k : Nat) (a1 : Arg) : (Int) → Option Out := fun v1612 => l2 k a1 (fun z => Q2 k a1 z) v1612
theorem s2_eq (k : Nat) (a1 : Arg) : s2 k a1 = r2 k a1 := by
  funext v1612;
  have h4 : X2_4 ((blockC 4 (seqC (codeK E k fin (sub [1, 1, 1, 1, 1, 1] C)) K0))) a1 = fun z => Q2 k a1 z := funext fun z => Q2_eq k a1 z
  refine (l2_eq k ((blockC 4 (seqC (codeK E k fin (sub [1, 1, 1, 1, 1, 1] C)) K0))) a1 v1612).trans ?_
  rw [h4]
  rfl
noncomputable def q1 (l2 : (Int) → Option Out) (a1 : Arg) (z1211 : (Unit)) : Option Out := l2 (0 : Int)
noncomputable def Q1 (k : Nat) (a1 : Arg) (z1211 : (Unit)) : Option Out := q1 (r2 k a1) a1 z1211
theorem q1_eq (k : Nat) (a1 : Arg) (z1211 : (Unit)) : (blockC 2 (seqC (codeK E k fin (sub [1, 1, 1, 1, 1] C)) K0)) (.exit 2) ({ n := 77, sl := [(1, .box tTx (roMd tTx) [] a1.1)], vr := [], lent := [] }) = q1 (s2 k a1) a1 z1211 := by kernel_rfl
theorem Q1_eq (k : Nat) (a1 : Arg) (z1211 : (Unit)) : (blockC 2 (seqC (codeK E k fin (sub [1, 1, 1, 1, 1] C)) K0)) (.exit 2) ({ n := 77, sl := [(1, .box tTx (roMd tTx) [] a1.1)], vr := [], lent := [] }) = Q1 k a1 z1211 := (q1_eq k a1 z1211).trans (by rw [s2_eq]; rfl)
noncomputable def s1 (k : Nat) (a1 : Arg) : (Int × Int) → Option Out := fun v1008 => iterK (codeK E k fin (sub [1, 1, 1, 1, 0, 1, 0, 0] C)) (keepF [1, 6, 41, 42, 43] []) (blockC 2 (seqC (codeK E k fin (sub [1, 1, 1, 1, 1] C)) K0)) k ({ n := 77, sl := [(1, .box tTx (roMd tTx) [] a1.1), (6, .val i64 v1008.1), (41, .val (.slc i64) a1.1.2.2.1), (42, .val i64 (a1.1.2.2.1.length : Int)), (43, .val i64 v1008.2)], vr := [], lent := [] })
noncomputable def r1 (k : Nat) (a1 : Arg) : (Int × Int) → Option Out := fun v1008 => l1 k a1 (fun z => Q1 k a1 z) v1008
theorem s1_eq (k : Nat) (a1 : Arg) : s1 k a1 = r1 k a1 := by
  funext v1008;
  have h2 : X1_2 ((blockC 2 (seqC (codeK E k fin (sub [1, 1, 1, 1, 1] C)) K0))) a1 = fun z => Q1 k a1 z := funext fun z => Q1_eq k a1 z
  refine (l1_eq k ((blockC 2 (seqC (codeK E k fin (sub [1, 1, 1, 1, 1] C)) K0))) a1 v1008).trans ?_
  rw [h2]
  rfl
noncomputable def q0 (l1 : (Int × Int) → Option Out) (a1 : Arg) (z607 : (Unit)) : Option Out := bif decide ((8 : Int) < (a1.1.2.2.1.length : Int)) then (some ((2 : Int), ())) else bif decide ((12 : Int) < (a1.1.2.2.2.1.length : Int)) then (some ((2 : Int), ())) else l1 ((0 : Int), (0 : Int))
noncomputable def Q0 (k : Nat) (a1 : Arg) (z607 : (Unit)) : Option Out := q0 (r1 k a1) a1 z607
theorem q0_eq (k : Nat) (a1 : Arg) (z607 : (Unit)) : (blockC 0 (seqC (codeK E k fin (sub [1, 1] C)) K0)) (.exit 0) ({ n := 77, sl := [(1, .box tTx (roMd tTx) [] a1.1)], vr := [], lent := [] }) = q0 (s1 k a1) a1 z607 := by kernel_rfl
theorem Q0_eq (k : Nat) (a1 : Arg) (z607 : (Unit)) : (blockC 0 (seqC (codeK E k fin (sub [1, 1] C)) K0)) (.exit 0) ({ n := 77, sl := [(1, .box tTx (roMd tTx) [] a1.1)], vr := [], lent := [] }) = Q0 k a1 z607 := (q0_eq k a1 z607).trans (by rw [s1_eq]; rfl)
noncomputable def s0 (k : Nat) (a1 : Arg) : (Int) → Option Out := fun v402 => iterK (codeK E k fin (sub [1, 0, 1, 0, 0] C)) (keepF [1, 12, 13, 14] []) (blockC 0 (seqC (codeK E k fin (sub [1, 1] C)) K0)) k ({ n := 77, sl := [(1, .box tTx (roMd tTx) [] a1.1), (12, .val (.slc tChange) a1.1.2.1), (13, .val i64 (a1.1.2.1.length : Int)), (14, .val i64 v402)], vr := [], lent := [] })
noncomputable def r0 (k : Nat) (a1 : Arg) : (Int) → Option Out := fun v402 => l0 k a1 (fun z => Q0 k a1 z) v402
theorem s0_eq (k : Nat) (a1 : Arg) : s0 k a1 = r0 k a1 := by
  funext v402;
  have h0 : X0_0 ((blockC 0 (seqC (codeK E k fin (sub [1, 1] C)) K0))) a1 = fun z => Q0 k a1 z := funext fun z => Q0_eq k a1 z
  refine (l0_eq k ((blockC 0 (seqC (codeK E k fin (sub [1, 1] C)) K0))) a1 v402).trans ?_
  rw [h0]
  rfl
noncomputable def p (l0 : (Int) → Option Out) (a1 : Arg) : Option Out := l0 (0 : Int)
noncomputable def raw (k : Nat) (a1 : Arg) : Option Out := p (r0 k a1) a1
theorem p_eq (k : Nat) (a1 : Arg) : bodyK E k Go.Proofs.Try.f233 ps rs [] [] a1 = p (s0 k a1) a1 := by kernel_rfl
theorem raw_eq (k : Nat) (a1 : Arg) : bodyK E k Go.Proofs.Try.f233 ps rs [] [] a1 = raw k a1 := (p_eq k a1).trans (by rw [s0_eq]; rfl)
theorem ent : EnterOk Go.Proofs.Try.prog 233 sig.cap := ⟨Go.Proofs.Try.f233, Go.Proofs.Try.func233, by kernel_rfl, by kernel_rfl, by kernel_rfl⟩
theorem env : EnvOk Go.Proofs.Try.prog E := env_ok (tl := [(2, i64), (130, tChange), (141, (.slc tChange)), (205, (.slc i64)), (214, tKey), (218, (.slc tKey)), (220, tTx)]) (gl := [(91, impl_in.sig), (169, impl_singleFault.sig), (171, impl_Change_lock.sig), (236, slices_Contains.sig), (268, impl_isKey.sig)]) rfl rfl (by kernel_rfl) (by kernel_rfl) (fn_cons impl_in.snd impl_in.ent (fn_cons impl_singleFault.snd impl_singleFault.ent (fn_cons impl_Change_lock.snd impl_Change_lock.ent (fn_cons slices_Contains.snd slices_Contains.ent (fn_cons impl_isKey.snd impl_isKey.ent (fn_nil _))))))
theorem chk : funOk Go.Proofs.Try.prog E Go.Proofs.Try.f233 ps rs [] = true := by kernel_rfl
theorem snd : Sound Go.Proofs.Try.prog 233 sig := sound_of_body env Go.Proofs.Try.func233 rfl (es := []) (fr := []) chk (fun _ _ h => lift_some h)
end impl_txFault
namespace impl_TxsFault
/-! loop example g00408 impl TxsFault -/
abbrev Arg : Type := (List Tx) × Unit
abbrev Out : Type := Int × Unit
noncomputable def ps : List (PM × Ty) := [(.ro, (.slc tTx))]
noncomputable def rs : List (Ty × Md) := [(i64, (roMd i64))]
noncomputable def E : Env := { TI := lookN [(2, i64), (29, (.slc tTx)), (214, tKey), (218, (.slc tKey)), (220, tTx), (280, (.map tKey .bool))], G := lookN [(172, impl_undone.sig), (189, impl_isTx.sig), (233, impl_txFault.sig)], fz := [], lv := [(4, [0, 14, 15, 16]), (16, [0, 6, 45, 46, 47]), (19, [0, 6, 45, 46, 47, 52, 53, 54])], lx := [(0, [0]), (2, [0]), (4, [0, 6, 45, 46, 47])], lf := [], od := [(8, [0, 1, 2, 3, 4, 5, 6, 7, 8, 9, 10, 11, 12])] }
noncomputable def sem (a : Arg) : Option Out := lift fun k => bodyK E k Go.Proofs.Try.f167 ps rs [] [] a
noncomputable def sig : Sig := { ps := ps, rs := rs, F := fun a => sem a }
noncomputable def C : Code := bodyOf Go.Proofs.Try.f167
noncomputable def fin : St → Option Out := outK ps rs [] (Func.results Go.Proofs.Try.f167).toList (mvs [])
noncomputable def K0 : Ex → St → Option Out := endK fin
noncomputable def S0 (rec : St → Option Out) (a1 : Arg) : (Int) → Option Out := fun v402 => rec ({ n := 68, sl := [(0, .val (.slc tTx) a1.1), (14, .val (.slc tTx) a1.1), (15, .val i64 (a1.1.length : Int)), (16, .val i64 v402)], vr := [], lent := [] })
noncomputable def X0_0 (K : Ex → St → Option Out) (a1 : Arg) : (Unit) → Option Out := fun z => K (.exit 0) ({ n := 68, sl := [(0, .val (.slc tTx) a1.1)], vr := [], lent := [] })
noncomputable def b0 (self : Int → Option Out) (e0 : (Unit) → Option Out) (a1 : Arg) (v402 : Int) : Option Out := bif decide (v402 < (a1.1.length : Int)) then (if 0 ≤ v402 then ((a1.1[v402.toNat]?).bind fun x603 => (impl_isTx.sem (x603.1, ())).bind fun r604 => bif !r604.1 then (some ((3 : Int), ())) else bif decide ((0 : Int) < v402) then (if 0 ≤ w64 (v402 - (1 : Int)) then ((a1.1[(w64 (v402 - (1 : Int))).toNat]?).bind fun x605 => bif decide (x603.1 ≤ x605.1) then (some ((1 : Int), ())) else (impl_txFault.sem (x603, ())).bind fun r607 => bif !decide (r607.1 = (0 : Int)) then (some (r607.1, ())) else self (w64 (v402 + (1 : Int)))) else none) else (impl_txFault.sem (x603, ())).bind fun r608 => bif !decide (r608.1 = (0 : Int)) then (some (r608.1, ())) else self (w64 (v402 + (1 : Int)))) else none) else e0 ()
noncomputable def B0 (k : Nat) (self : Int → Option Out) (e0 : (Unit) → Option Out) (a1 : Arg) (v402 : Int) : Option Out := b0 self e0 a1 v402
theorem b0_eq (k : Nat) (rec : St → Option Out) (K : Ex → St → Option Out) (a1 : Arg) (v402 : Int) : codeK E k fin (sub [1, 1, 0, 1, 0, 0] C) ({ n := 68, sl := [(0, .val (.slc tTx) a1.1), (14, .val (.slc tTx) a1.1), (15, .val i64 (a1.1.length : Int)), (16, .val i64 v402)], vr := [], lent := [] }) (loopC rec (keepF [0, 14, 15, 16] []) K) = b0 (S0 rec a1) (X0_0 K a1) a1 v402 := by kernel_rfl
theorem B0_eq (k : Nat) (rec : St → Option Out) (K : Ex → St → Option Out) (a1 : Arg) (v402 : Int) : codeK E k fin (sub [1, 1, 0, 1, 0, 0] C) ({ n := 68, sl := [(0, .val (.slc tTx) a1.1), (14, .val (.slc tTx) a1.1), (15, .val i64 (a1.1.length : Int)), (16, .val i64 v402)], vr := [], lent := [] }) (loopC rec (keepF [0, 14, 15, 16] []) K) = B0 k (S0 rec a1) (X0_0 K a1) a1 v402 := (b0_eq k rec K a1 v402).trans (by rfl)
noncomputable def l0 (k : Nat) (a1 : Arg) (e0 : (Unit) → Option Out) (v : Int) : Option Out := rawIter (fun self v => B0 k self e0 a1 v) k v
theorem l0_eq (k : Nat) (K : Ex → St → Option Out) (a1 : Arg) (v402 : Int) : iterK (codeK E k fin (sub [1, 1, 0, 1, 0, 0] C)) (keepF [0, 14, 15, 16] []) K k ({ n := 68, sl := [(0, .val (.slc tTx) a1.1), (14, .val (.slc tTx) a1.1), (15, .val i64 (a1.1.length : Int)), (16, .val i64 v402)], vr := [], lent := [] }) = l0 k a1 (X0_0 K a1) v402 :=
  iter_raw _ _ K (fun v402 => ({ n := 68, sl := [(0, .val (.slc tTx) a1.1), (14, .val (.slc tTx) a1.1), (15, .val i64 (a1.1.length : Int)), (16, .val i64 v402)], vr := [], lent := [] } : St)) (fun self v => B0 k self (X0_0 K a1) a1 v) (fun rec v => B0_eq k rec K a1 v) k v402
noncomputable def S1 (rec : St → Option Out) (a1 : Arg) : ((List Tx) × (List (Key × Bool)) × (List Tx) × Int × Int) → Option Out := fun v1010 => rec ({ n := 68, sl := [(0, .val (.slc tTx) v1010.1), (6, .own (.map tKey .bool) (ownMd (.map tKey .bool)) [] v1010.2.1), (45, .val (.slc tTx) v1010.2.2.1), (46, .val i64 v1010.2.2.2.1), (47, .val i64 v1010.2.2.2.2)], vr := [], lent := [] })
noncomputable def X1_2 (K : Ex → St → Option Out) (a1 : Arg) : (List Tx) → Option Out := fun z => K (.exit 2) ({ n := 68, sl := [(0, .val (.slc tTx) z)], vr := [], lent := [] })
noncomputable def S2 (rec : St → Option Out) (a1 : Arg) (c1613 : List Tx) (c1614 : List Tx) (c1615 : Int) (c1616 : Int) (c1617 : List Key) (c1618 : Int) : ((List (Key × Bool)) × Int) → Option Out := fun v1612 => rec ({ n := 68, sl := [(0, .val (.slc tTx) c1613), (6, .own (.map tKey .bool) (ownMd (.map tKey .bool)) [] v1612.1), (45, .val (.slc tTx) c1614), (46, .val i64 c1615), (47, .val i64 c1616), (52, .val (.slc tKey) c1617), (53, .val i64 c1618), (54, .val i64 v1612.2)], vr := [], lent := [] })
noncomputable def X2_4 (K : Ex → St → Option Out) (a1 : Arg) (c1613 : List Tx) (c1614 : List Tx) (c1615 : Int) (c1616 : Int) (c1617 : List Key) (c1618 : Int) : (List (Key × Bool)) → Option Out := fun z => K (.exit 4) ({ n := 68, sl := [(0, .val (.slc tTx) c1613), (6, .own (.map tKey .bool) (ownMd (.map tKey .bool)) [] z), (45, .val (.slc tTx) c1614), (46, .val i64 c1615), (47, .val i64 c1616)], vr := [], lent := [] })
noncomputable def b2 (self : ((List (Key × Bool)) × Int) → Option Out) (e4 : (List (Key × Bool)) → Option Out) (a1 : Arg) (c1613 : List Tx) (c1614 : List Tx) (c1615 : Int) (c1616 : Int) (c1617 : List Key) (c1618 : Int) (v1612 : (List (Key × Bool)) × Int) : Option Out := bif decide (v1612.2 < c1618) then (if 0 ≤ v1612.2 then ((c1617[v1612.2.toNat]?).bind fun x1819 => bif orZ (mapGet tKey v1612.1 x1819) false then (some ((7 : Int), ())) else self (mapPut tKey v1612.1 x1819 true, w64 (v1612.2 + (1 : Int)))) else none) else e4 v1612.1
noncomputable def B2 (k : Nat) (self : ((List (Key × Bool)) × Int) → Option Out) (e4 : (List (Key × Bool)) → Option Out) (a1 : Arg) (c1613 : List Tx) (c1614 : List Tx) (c1615 : Int) (c1616 : Int) (c1617 : List Key) (c1618 : Int) (v1612 : (List (Key × Bool)) × Int) : Option Out := b2 self e4 a1 c1613 c1614 c1615 c1616 c1617 c1618 v1612
theorem b2_eq (k : Nat) (rec : St → Option Out) (K : Ex → St → Option Out) (a1 : Arg) (c1613 : List Tx) (c1614 : List Tx) (c1615 : Int) (c1616 : Int) (c1617 : List Key) (c1618 : Int) (v1612 : (List (Key × Bool)) × Int) : codeK E k fin (sub [1, 1, 1, 1, 0, 1, 0, 0, 1, 1, 0, 0, 1, 1, 0, 0] C) ({ n := 68, sl := [(0, .val (.slc tTx) c1613), (6, .own (.map tKey .bool) (ownMd (.map tKey .bool)) [] v1612.1), (45, .val (.slc tTx) c1614), (46, .val i64 c1615), (47, .val i64 c1616), (52, .val (.slc tKey) c1617), (53, .val i64 c1618), (54, .val i64 v1612.2)], vr := [], lent := [] }) (loopC rec (keepF [0, 6, 45, 46, 47, 52, 53, 54] []) K) = b2 (S2 rec a1 c1613 c1614 c1615 c1616 c1617 c1618) (X2_4 K a1 c1613 c1614 c1615 c1616 c1617 c1618) a1 c1613 c1614 c1615 c1616 c1617 c1618 v1612 := by kernel_rfl
theorem B2_eq (k : Nat) (rec : St → Option Out) (K : Ex → St → Option Out) (a1 : Arg) (c1613 : List Tx) (c1614 : List Tx) (c1615 : Int) (c1616 : Int) (c1617 : List Key) (c1618 : Int) (v1612 : (List (Key × Bool)) × Int) : codeK E k fin (sub [1, 1, 1, 1, 0, 1, 0, 0, 1, 1, 0, 0, 1, 1, 0, 0] C) ({ n := 68, sl := [(0, .val (.slc tTx) c1613), (6, .own (.map tKey .bool) (ownMd (.map tKey .bool)) [] v1612.1), (45, .val (.slc tTx) c1614), (46, .val i64 c1615), (47, .val i64 c1616), (52, .val (.slc tKey) c1617), (53, .val i64 c1618), (54, .val i64 v1612.2)], vr := [], lent := [] }) (loopC rec (keepF [0, 6, 45, 46, 47, 52, 53, 54] []) K) = B2 k (S2 rec a1 c1613 c1614 c1615 c1616 c1617 c1618) (X2_4 K a1 c1613 c1614 c1615 c1616 c1617 c1618) a1 c1613 c1614 c1615 c1616 c1617 c1618 v1612 := (b2_eq k rec K a1 c1613 c1614 c1615 c1616 c1617 c1618 v1612).trans (by rfl)
noncomputable def l2 (k : Nat) (a1 : Arg) (c1613 : List Tx) (c1614 : List Tx) (c1615 : Int) (c1616 : Int) (c1617 : List Key) (c1618 : Int) (e4 : (List (Key × Bool)) → Option Out) (v : (List (Key × Bool)) × Int) : Option Out := rawIter (fun self v => B2 k self e4 a1 c1613 c1614 c1615 c1616 c1617 c1618 v) k v
theorem l2_eq (k : Nat) (K : Ex → St → Option Out) (a1 : Arg) (c1613 : List Tx) (c1614 : List Tx) (c1615 : Int) (c1616 : Int) (c1617 : List Key) (c1618 : Int) (v1612 : (List (Key × Bool)) × Int) : iterK (codeK E k fin (sub [1, 1, 1, 1, 0, 1, 0, 0, 1, 1, 0, 0, 1, 1, 0, 0] C)) (keepF [0, 6, 45, 46, 47, 52, 53, 54] []) K k ({ n := 68, sl := [(0, .val (.slc tTx) c1613), (6, .own (.map tKey .bool) (ownMd (.map tKey .bool)) [] v1612.1), (45, .val (.slc tTx) c1614), (46, .val i64 c1615), (47, .val i64 c1616), (52, .val (.slc tKey) c1617), (53, .val i64 c1618), (54, .val i64 v1612.2)], vr := [], lent := [] }) = l2 k a1 c1613 c1614 c1615 c1616 c1617 c1618 (X2_4 K a1 c1613 c1614 c1615 c1616 c1617 c1618) v1612 :=
  iter_raw _ _ K (fun v1612 => ({ n := 68, sl := [(0, .val (.slc tTx) c1613), (6, .own (.map tKey .bool) (ownMd (.map tKey .bool)) [] v1612.1), (45, .val (.slc tTx) c1614), (46, .val i64 c1615), (47, .val i64 c1616), (52, .val (.slc tKey) c1617), (53, .val i64 c1618), (54, .val i64 v1612.2)], vr := [], lent := [] } : St)) (fun self v => B2 k self (X2_4 K a1 c1613 c1614 c1615 c1616 c1617 c1618) a1 c1613 c1614 c1615 c1616 c1617 c1618 v) (fun rec v => B2_eq k rec K a1 c1613 c1614 c1615 c1616 c1617 c1618 v) k v1612
noncomputable def q1 (self : ((List Tx) × (List (Key × Bool)) × (List Tx) × Int × Int) → Option Out) (e2 : (List Tx) → Option Out) (a1 : Arg) (c1613 : List Tx) (c1614 : List Tx) (c1615 : Int) (c1616 : Int) (c1617 : List Key) (c1618 : Int) (z1820 : (List (Key × Bool))) : Option Out := self (c1613, z1820, c1614, c1615, w64 (c1616 + (1 : Int)))
noncomputable def Q1 (k : Nat) (self : ((List Tx) × (List (Key × Bool)) × (List Tx) × Int × Int) → Option Out) (e2 : (List Tx) → Option Out) (a1 : Arg) (c1613 : List Tx) (c1614 : List Tx) (c1615 : Int) (c1616 : Int) (c1617 : List Key) (c1618 : Int) (z1820 : (List (Key × Bool))) : Option Out := q1 self e2 a1 c1613 c1614 c1615 c1616 c1617 c1618 z1820
theorem q1_eq (k : Nat) (rec : St → Option Out) (K : Ex → St → Option Out) (a1 : Arg) (c1613 : List Tx) (c1614 : List Tx) (c1615 : Int) (c1616 : Int) (c1617 : List Key) (c1618 : Int) (z1820 : (List (Key × Bool))) : (blockC 4 (blockC 3 (seqC (codeK E k fin (sub [1, 1, 1, 1, 0, 1, 0, 0, 1, 1, 1] C)) (loopC rec (keepF [0, 6, 45, 46, 47] []) K)))) (.exit 4) ({ n := 68, sl := [(0, .val (.slc tTx) c1613), (6, .own (.map tKey .bool) (ownMd (.map tKey .bool)) [] z1820), (45, .val (.slc tTx) c1614), (46, .val i64 c1615), (47, .val i64 c1616)], vr := [], lent := [] }) = q1 (S1 rec a1) (X1_2 K a1) a1 c1613 c1614 c1615 c1616 c1617 c1618 z1820 := by kernel_rfl
theorem Q1_eq (k : Nat) (rec : St → Option Out) (K : Ex → St → Option Out) (a1 : Arg) (c1613 : List Tx) (c1614 : List Tx) (c1615 : Int) (c1616 : Int) (c1617 : List Key) (c1618 : Int) (z1820 : (List (Key × Bool))) : (blockC 4 (blockC 3 (seqC (codeK E k fin (sub [1, 1, 1, 1, 0, 1, 0, 0, 1, 1, 1] C)) (loopC rec (keepF [0, 6, 45, 46, 47] []) K)))) (.exit 4) ({ n := 68, sl := [(0, .val (.slc tTx) c1613), (6, .own (.map tKey .bool) (ownMd (.map tKey .bool)) [] z1820), (45, .val (.slc tTx) c1614), (46, .val i64 c1615), (47, .val i64 c1616)], vr := [], lent := [] }) = Q1 k (S1 rec a1) (X1_2 K a1) a1 c1613 c1614 c1615 c1616 c1617 c1618 z1820 := (q1_eq k rec K a1 c1613 c1614 c1615 c1616 c1617 c1618 z1820).trans (by rfl)
noncomputable def s2 (k : Nat) (rec : St → Option Out) (K : Ex → St → Option Out) (a1 : Arg) : (List Tx) → (List Tx) → Int → Int → (List Key) → Int → ((List (Key × Bool)) × Int) → Option Out := fun c1613 c1614 c1615 c1616 c1617 c1618 v1612 => iterK (codeK E k fin (sub [1, 1, 1, 1, 0, 1, 0, 0, 1, 1, 0, 0, 1, 1, 0, 0] C)) (keepF [0, 6, 45, 46, 47, 52, 53, 54] []) (blockC 4 (blockC 3 (seqC (codeK E k fin (sub [1, 1, 1, 1, 0, 1, 0, 0, 1, 1, 1] C)) (loopC rec (keepF [0, 6, 45, 46, 47] []) K)))) k ({ n := 68, sl := [(0, .val (.slc tTx) c1613), (6, .own (.map tKey .bool) (ownMd (.map tKey .bool)) [] v1612.1), (45, .val (.slc tTx) c1614), (46, .val i64 c1615), (47, .val i64 c1616), (52, .val (.slc tKey) c1617), (53, .val i64 c1618), (54, .val i64 v1612.2)], vr := [], lent := [] })
noncomputable def r2 (k : Nat) (self : ((List Tx) × (List (Key × Bool)) × (List Tx) × Int × Int) → Option Out) (e2 : (List Tx) → Option Out) (a1 : Arg) : (List Tx) → (List Tx) → Int → Int → (List Key) → Int → ((List (Key × Bool)) × Int) → Option Out := fun c1613 c1614 c1615 c1616 c1617 c1618 v1612 => l2 k a1 c1613 c1614 c1615 c1616 c1617 c1618 (fun z => Q1 k self e2 a1 c1613 c1614 c1615 c1616 c1617 c1618 z) v1612
theorem s2_eq (k : Nat) (rec : St → Option Out) (K : Ex → St → Option Out) (a1 : Arg) : s2 k rec K a1 = r2 k (S1 rec a1) (X1_2 K a1) a1 := by
  funext c1613; funext c1614; funext c1615; funext c1616; funext c1617; funext c1618; funext v1612;
  have h4 : X2_4 ((blockC 4 (blockC 3 (seqC (codeK E k fin (sub [1, 1, 1, 1, 0, 1, 0, 0, 1, 1, 1] C)) (loopC rec (keepF [0, 6, 45, 46, 47] []) K))))) a1 c1613 c1614 c1615 c1616 c1617 c1618 = fun z => Q1 k (S1 rec a1) (X1_2 K a1) a1 c1613 c1614 c1615 c1616 c1617 c1618 z := funext fun z => Q1_eq k rec K a1 c1613 c1614 c1615 c1616 c1617 c1618 z
  refine (l2_eq k ((blockC 4 (blockC 3 (seqC (codeK E k fin (sub [1, 1, 1, 1, 0, 1, 0, 0, 1, 1, 1] C)) (loopC rec (keepF [0, 6, 45, 46, 47] []) K))))) a1 c1613 c1614 c1615 c1616 c1617 c1618 v1612).trans ?_
  rw [h4]
  rfl
noncomputable def b1 (self : ((List Tx) × (List (Key × Bool)) × (List Tx) × Int × Int) → Option Out) (e2 : (List Tx) → Option Out) (l2 : (List Tx) → (List Tx) → Int → Int → (List Key) → Int → ((List (Key × Bool)) × Int) → Option Out) (a1 : Arg) (v1010 : (List Tx) × (List (Key × Bool)) × (List Tx) × Int × Int) : Option Out := bif decide (v1010.2.2.2.2 < v1010.2.2.2.1) then (if 0 ≤ v1010.2.2.2.2 then ((v1010.2.2.1[v1010.2.2.2.2.toNat]?).bind fun x1211 => l2 v1010.1 v1010.2.2.1 v1010.2.2.2.1 v1010.2.2.2.2 x1211.2.2.2.1 (x1211.2.2.2.1.length : Int) (v1010.2.1, (0 : Int))) else none) else e2 v1010.1
noncomputable def B1 (k : Nat) (self : ((List Tx) × (List (Key × Bool)) × (List Tx) × Int × Int) → Option Out) (e2 : (List Tx) → Option Out) (a1 : Arg) (v1010 : (List Tx) × (List (Key × Bool)) × (List Tx) × Int × Int) : Option Out := b1 self e2 (r2 k self e2 a1) a1 v1010
theorem b1_eq (k : Nat) (rec : St → Option Out) (K : Ex → St → Option Out) (a1 : Arg) (v1010 : (List Tx) × (List (Key × Bool)) × (List Tx) × Int × Int) : codeK E k fin (sub [1, 1, 1, 1, 0, 1, 0, 0] C) ({ n := 68, sl := [(0, .val (.slc tTx) v1010.1), (6, .own (.map tKey .bool) (ownMd (.map tKey .bool)) [] v1010.2.1), (45, .val (.slc tTx) v1010.2.2.1), (46, .val i64 v1010.2.2.2.1), (47, .val i64 v1010.2.2.2.2)], vr := [], lent := [] }) (loopC rec (keepF [0, 6, 45, 46, 47] []) K) = b1 (S1 rec a1) (X1_2 K a1) (s2 k rec K a1) a1 v1010 := by kernel_rfl
theorem B1_eq (k : Nat) (rec : St → Option Out) (K : Ex → St → Option Out) (a1 : Arg) (v1010 : (List Tx) × (List (Key × Bool)) × (List Tx) × Int × Int) : codeK E k fin (sub [1, 1, 1, 1, 0, 1, 0, 0] C) ({ n := 68, sl := [(0, .val (.slc tTx) v1010.1), (6, .own (.map tKey .bool) (ownMd (.map tKey .bool)) [] v1010.2.1), (45, .val (.slc tTx) v1010.2.2.1), (46, .val i64 v1010.2.2.2.1), (47, .val i64 v1010.2.2.2.2)], vr := [], lent := [] }) (loopC rec (keepF [0, 6, 45, 46, 47] []) K) = B1 k (S1 rec a1) (X1_2 K a1) a1 v1010 := (b1_eq k rec K a1 v1010).trans (by rw [s2_eq]; rfl)
noncomputable def l1 (k : Nat) (a1 : Arg) (e2 : (List Tx) → Option Out) (v : (List Tx) × (List (Key × Bool)) × (List Tx) × Int × Int) : Option Out := rawIter (fun self v => B1 k self e2 a1 v) k v
theorem l1_eq (k : Nat) (K : Ex → St → Option Out) (a1 : Arg) (v1010 : (List Tx) × (List (Key × Bool)) × (List Tx) × Int × Int) : iterK (codeK E k fin (sub [1, 1, 1, 1, 0, 1, 0, 0] C)) (keepF [0, 6, 45, 46, 47] []) K k ({ n := 68, sl := [(0, .val (.slc tTx) v1010.1), (6, .own (.map tKey .bool) (ownMd (.map tKey .bool)) [] v1010.2.1), (45, .val (.slc tTx) v1010.2.2.1), (46, .val i64 v1010.2.2.2.1), (47, .val i64 v1010.2.2.2.2)], vr := [], lent := [] }) = l1 k a1 (X1_2 K a1) v1010 :=
  iter_raw _ _ K (fun v1010 => ({ n := 68, sl := [(0, .val (.slc tTx) v1010.1), (6, .own (.map tKey .bool) (ownMd (.map tKey .bool)) [] v1010.2.1), (45, .val (.slc tTx) v1010.2.2.1), (46, .val i64 v1010.2.2.2.1), (47, .val i64 v1010.2.2.2.2)], vr := [], lent := [] } : St)) (fun self v => B1 k self (X1_2 K a1) a1 v) (fun rec v => B1_eq k rec K a1 v) k v1010
noncomputable def q2 (a1 : Arg) (z1821 : (List Tx)) : Option Out := (impl_undone.sem (z1821, ())).bind fun r1822 => bif decide ((12 : Int) < r1822.1) then (some ((2 : Int), ())) else some ((0 : Int), ())
noncomputable def Q2 (k : Nat) (a1 : Arg) (z1821 : (List Tx)) : Option Out := q2 a1 z1821
theorem q2_eq (k : Nat) (a1 : Arg) (z1821 : (List Tx)) : (blockC 2 (seqC (codeK E k fin (sub [1, 1, 1, 1, 1] C)) K0)) (.exit 2) ({ n := 68, sl := [(0, .val (.slc tTx) z1821)], vr := [], lent := [] }) = q2 a1 z1821 := by kernel_rfl
theorem Q2_eq (k : Nat) (a1 : Arg) (z1821 : (List Tx)) : (blockC 2 (seqC (codeK E k fin (sub [1, 1, 1, 1, 1] C)) K0)) (.exit 2) ({ n := 68, sl := [(0, .val (.slc tTx) z1821)], vr := [], lent := [] }) = Q2 k a1 z1821 := (q2_eq k a1 z1821).trans (by rfl)
noncomputable def s1 (k : Nat) (a1 : Arg) : ((List Tx) × (List (Key × Bool)) × (List Tx) × Int × Int) → Option Out := fun v1010 => iterK (codeK E k fin (sub [1, 1, 1, 1, 0, 1, 0, 0] C)) (keepF [0, 6, 45, 46, 47] []) (blockC 2 (seqC (codeK E k fin (sub [1, 1, 1, 1, 1] C)) K0)) k ({ n := 68, sl := [(0, .val (.slc tTx) v1010.1), (6, .own (.map tKey .bool) (ownMd (.map tKey .bool)) [] v1010.2.1), (45, .val (.slc tTx) v1010.2.2.1), (46, .val i64 v1010.2.2.2.1), (47, .val i64 v1010.2.2.2.2)], vr := [], lent := [] })
noncomputable def r1 (k : Nat) (a1 : Arg) : ((List Tx) × (List (Key × Bool)) × (List Tx) × Int × Int) → Option Out := fun v1010 => l1 k a1 (fun z => Q2 k a1 z) v1010
theorem s1_eq (k : Nat) (a1 : Arg) : s1 k a1 = r1 k a1 := by
  funext v1010;
  have h2 : X1_2 ((blockC 2 (seqC (codeK E k fin (sub [1, 1, 1, 1, 1] C)) K0))) a1 = fun z => Q2 k a1 z := funext fun z => Q2_eq k a1 z
  refine (l1_eq k ((blockC 2 (seqC (codeK E k fin (sub [1, 1, 1, 1, 1] C)) K0))) a1 v1010).trans ?_
  rw [h2]
  rfl
noncomputable def q0 (l1 : ((List Tx) × (List (Key × Bool)) × (List Tx) × Int × Int) → Option Out) (a1 : Arg) (z609 : (Unit)) : Option Out := l1 (a1.1, ([] : List (Key × Bool)), a1.1, (a1.1.length : Int), (0 : Int))
noncomputable def Q0 (k : Nat) (a1 : Arg) (z609 : (Unit)) : Option Out := q0 (r1 k a1) a1 z609
theorem q0_eq (k : Nat) (a1 : Arg) (z609 : (Unit)) : (blockC 0 (seqC (codeK E k fin (sub [1, 1, 1] C)) K0)) (.exit 0) ({ n := 68, sl := [(0, .val (.slc tTx) a1.1)], vr := [], lent := [] }) = q0 (s1 k a1) a1 z609 := by kernel_rfl
theorem Q0_eq (k : Nat) (a1 : Arg) (z609 : (Unit)) : (blockC 0 (seqC (codeK E k fin (sub [1, 1, 1] C)) K0)) (.exit 0) ({ n := 68, sl := [(0, .val (.slc tTx) a1.1)], vr := [], lent := [] }) = Q0 k a1 z609 := (q0_eq k a1 z609).trans (by rw [s1_eq]; rfl)
noncomputable def s0 (k : Nat) (a1 : Arg) : (Int) → Option Out := fun v402 => iterK (codeK E k fin (sub [1, 1, 0, 1, 0, 0] C)) (keepF [0, 14, 15, 16] []) (blockC 0 (seqC (codeK E k fin (sub [1, 1, 1] C)) K0)) k ({ n := 68, sl := [(0, .val (.slc tTx) a1.1), (14, .val (.slc tTx) a1.1), (15, .val i64 (a1.1.length : Int)), (16, .val i64 v402)], vr := [], lent := [] })
noncomputable def r0 (k : Nat) (a1 : Arg) : (Int) → Option Out := fun v402 => l0 k a1 (fun z => Q0 k a1 z) v402
theorem s0_eq (k : Nat) (a1 : Arg) : s0 k a1 = r0 k a1 := by
  funext v402;
  have h0 : X0_0 ((blockC 0 (seqC (codeK E k fin (sub [1, 1, 1] C)) K0))) a1 = fun z => Q0 k a1 z := funext fun z => Q0_eq k a1 z
  refine (l0_eq k ((blockC 0 (seqC (codeK E k fin (sub [1, 1, 1] C)) K0))) a1 v402).trans ?_
  rw [h0]
  rfl
noncomputable def p (l0 : (Int) → Option Out) (a1 : Arg) : Option Out := bif decide ((4 : Int) < (a1.1.length : Int)) then (some ((2 : Int), ())) else l0 (0 : Int)
noncomputable def raw (k : Nat) (a1 : Arg) : Option Out := p (r0 k a1) a1
theorem p_eq (k : Nat) (a1 : Arg) : bodyK E k Go.Proofs.Try.f167 ps rs [] [] a1 = p (s0 k a1) a1 := by kernel_rfl
theorem raw_eq (k : Nat) (a1 : Arg) : bodyK E k Go.Proofs.Try.f167 ps rs [] [] a1 = raw k a1 := (p_eq k a1).trans (by rw [s0_eq]; rfl)
theorem ent : EnterOk Go.Proofs.Try.prog 167 sig.cap := ⟨Go.Proofs.Try.f167, Go.Proofs.Try.func167, by kernel_rfl, by kernel_rfl, by kernel_rfl⟩
theorem env : EnvOk Go.Proofs.Try.prog E := env_ok (tl := [(2, i64), (29, (.slc tTx)), (214, tKey), (218, (.slc tKey)), (220, tTx), (280, (.map tKey .bool))]) (gl := [(172, impl_undone.sig), (189, impl_isTx.sig), (233, impl_txFault.sig)]) rfl rfl (by kernel_rfl) (by kernel_rfl) (fn_cons impl_undone.snd impl_undone.ent (fn_cons impl_isTx.snd impl_isTx.ent (fn_cons impl_txFault.snd impl_txFault.ent (fn_nil _))))
theorem chk : funOk Go.Proofs.Try.prog E Go.Proofs.Try.f167 ps rs [] = true := by kernel_rfl
theorem snd : Sound Go.Proofs.Try.prog 167 sig := sound_of_body env Go.Proofs.Try.func167 rfl (es := []) (fr := []) chk (fun _ _ h => lift_some h)
end impl_TxsFault
namespace impl_txAt_1
/-! loop example g00408 impl txAt 1 -/
abbrev Arg : Type := Tx × Int × Unit
abbrev Out : Type := Bool × Unit
noncomputable def ps : List (PM × Ty) := [(.ro, tTx), (.ro, (.ptr i64))]
noncomputable def rs : List (Ty × Md) := [(.bool, (roMd .bool))]
noncomputable def E : Env := { TI := lookN [(2, i64), (220, tTx)], G := lookN [], fz := [], lv := [], lx := [], lf := [], od := [] }
noncomputable def sem (a : Arg) : Option Out := lift fun k => bodyK E k Go.Proofs.Try.f235 ps rs [] [] a
noncomputable def sig : Sig := { cap := true, ps := ps, rs := rs, F := fun a => sem a }
noncomputable def C : Code := bodyOf Go.Proofs.Try.f235
noncomputable def fin : St → Option Out := outK ps rs [] (Func.results Go.Proofs.Try.f235).toList (mvs [])
noncomputable def K0 : Ex → St → Option Out := endK fin
noncomputable def p (a1 : Arg) : Option Out := some (decide (a1.1.1 = a1.2.1), ())
noncomputable def raw (k : Nat) (a1 : Arg) : Option Out := p a1
theorem p_eq (k : Nat) (a1 : Arg) : bodyK E k Go.Proofs.Try.f235 ps rs [] [] a1 = p a1 := by kernel_rfl
theorem raw_eq (k : Nat) (a1 : Arg) : bodyK E k Go.Proofs.Try.f235 ps rs [] [] a1 = raw k a1 := (p_eq k a1).trans (by rfl)
theorem ent : EnterOk Go.Proofs.Try.prog 235 sig.cap := ⟨Go.Proofs.Try.f235, Go.Proofs.Try.func235, by kernel_rfl, by kernel_rfl, by kernel_rfl⟩
theorem env : EnvOk Go.Proofs.Try.prog E := env_ok (tl := [(2, i64), (220, tTx)]) (gl := []) rfl rfl (by kernel_rfl) (by kernel_rfl) (fn_nil _)
theorem chk : funOk Go.Proofs.Try.prog E Go.Proofs.Try.f235 ps rs [] = true := by kernel_rfl
theorem snd : Sound Go.Proofs.Try.prog 235 sig := sound_of_body env Go.Proofs.Try.func235 rfl (es := []) (fr := []) chk (fun _ _ h => lift_some h)
end impl_txAt_1
namespace slices_IndexFunc
/-! slices IndexFunc   loop example g00408 impl Tx loop example g00408 impl Tx  -/
abbrev Arg : Type := (List Tx) × (Nat × Int) × Unit
abbrev Out : Type := Int × Unit
noncomputable def ps : List (PM × Ty) := [(.ro, (.slc tTx)), (.fix 235, .fn)]
noncomputable def rs : List (Ty × Md) := [(i64, (roMd i64))]
noncomputable def E : Env := { TI := lookN [(29, (.slc tTx)), (220, tTx)], G := lookN [(235, impl_txAt_1.sig)], fz := [], lv := [(2, [0, 1, 7, 8])], lx := [(0, [])], lf := [], od := [] }
noncomputable def sem (a : Arg) : Option Out := lift fun k => bodyK E k Go.Proofs.Try.f234 ps rs [] [] a
noncomputable def sig : Sig := { ps := ps, rs := rs, F := fun a => sem a }
noncomputable def C : Code := bodyOf Go.Proofs.Try.f234
noncomputable def fin : St → Option Out := outK ps rs [] (Func.results Go.Proofs.Try.f234).toList (mvs [])
noncomputable def K0 : Ex → St → Option Out := endK fin
noncomputable def S0 (rec : St → Option Out) (a1 : Arg) : (Int) → Option Out := fun v402 => rec ({ n := 19, sl := [(0, .val (.slc tTx) a1.1), (1, .val .fn ((235, a1.2.1.2) : Nat × Int)), (7, .val i64 (a1.1.length : Int)), (8, .val i64 v402)], vr := [], lent := [] })
noncomputable def X0_0 (K : Ex → St → Option Out) (a1 : Arg) : (Unit) → Option Out := fun z => K (.exit 0) ({ n := 19, sl := [], vr := [], lent := [] })
noncomputable def b0 (self : Int → Option Out) (e0 : (Unit) → Option Out) (a1 : Arg) (v402 : Int) : Option Out := bif decide (v402 < (a1.1.length : Int)) then (if 0 ≤ v402 then ((a1.1[v402.toNat]?).bind fun x603 => (impl_txAt_1.sem (x603, a1.2.1.2, ())).bind fun r604 => bif r604.1 then (some (v402, ())) else self (w64 (v402 + (1 : Int)))) else none) else e0 ()
noncomputable def B0 (k : Nat) (self : Int → Option Out) (e0 : (Unit) → Option Out) (a1 : Arg) (v402 : Int) : Option Out := b0 self e0 a1 v402
theorem b0_eq (k : Nat) (rec : St → Option Out) (K : Ex → St → Option Out) (a1 : Arg) (v402 : Int) : codeK E k fin (sub [1, 0, 1, 0, 0] C) ({ n := 19, sl := [(0, .val (.slc tTx) a1.1), (1, .val .fn ((235, a1.2.1.2) : Nat × Int)), (7, .val i64 (a1.1.length : Int)), (8, .val i64 v402)], vr := [], lent := [] }) (loopC rec (keepF [0, 1, 7, 8] []) K) = b0 (S0 rec a1) (X0_0 K a1) a1 v402 := by kernel_rfl
theorem B0_eq (k : Nat) (rec : St → Option Out) (K : Ex → St → Option Out) (a1 : Arg) (v402 : Int) : codeK E k fin (sub [1, 0, 1, 0, 0] C) ({ n := 19, sl := [(0, .val (.slc tTx) a1.1), (1, .val .fn ((235, a1.2.1.2) : Nat × Int)), (7, .val i64 (a1.1.length : Int)), (8, .val i64 v402)], vr := [], lent := [] }) (loopC rec (keepF [0, 1, 7, 8] []) K) = B0 k (S0 rec a1) (X0_0 K a1) a1 v402 := (b0_eq k rec K a1 v402).trans (by rfl)
noncomputable def l0 (k : Nat) (a1 : Arg) (e0 : (Unit) → Option Out) (v : Int) : Option Out := rawIter (fun self v => B0 k self e0 a1 v) k v
theorem l0_eq (k : Nat) (K : Ex → St → Option Out) (a1 : Arg) (v402 : Int) : iterK (codeK E k fin (sub [1, 0, 1, 0, 0] C)) (keepF [0, 1, 7, 8] []) K k ({ n := 19, sl := [(0, .val (.slc tTx) a1.1), (1, .val .fn ((235, a1.2.1.2) : Nat × Int)), (7, .val i64 (a1.1.length : Int)), (8, .val i64 v402)], vr := [], lent := [] }) = l0 k a1 (X0_0 K a1) v402 :=
  iter_raw _ _ K (fun v402 => ({ n := 19, sl := [(0, .val (.slc tTx) a1.1), (1, .val .fn ((235, a1.2.1.2) : Nat × Int)), (7, .val i64 (a1.1.length : Int)), (8, .val i64 v402)], vr := [], lent := [] } : St)) (fun self v => B0 k self (X0_0 K a1) a1 v) (fun rec v => B0_eq k rec K a1 v) k v402
noncomputable def q0 (a1 : Arg) (z605 : (Unit)) : Option Out := some ((-1 : Int), ())
noncomputable def Q0 (k : Nat) (a1 : Arg) (z605 : (Unit)) : Option Out := q0 a1 z605
theorem q0_eq (k : Nat) (a1 : Arg) (z605 : (Unit)) : (blockC 0 (seqC (codeK E k fin (sub [1, 1] C)) K0)) (.exit 0) ({ n := 19, sl := [], vr := [], lent := [] }) = q0 a1 z605 := by kernel_rfl
theorem Q0_eq (k : Nat) (a1 : Arg) (z605 : (Unit)) : (blockC 0 (seqC (codeK E k fin (sub [1, 1] C)) K0)) (.exit 0) ({ n := 19, sl := [], vr := [], lent := [] }) = Q0 k a1 z605 := (q0_eq k a1 z605).trans (by rfl)
noncomputable def s0 (k : Nat) (a1 : Arg) : (Int) → Option Out := fun v402 => iterK (codeK E k fin (sub [1, 0, 1, 0, 0] C)) (keepF [0, 1, 7, 8] []) (blockC 0 (seqC (codeK E k fin (sub [1, 1] C)) K0)) k ({ n := 19, sl := [(0, .val (.slc tTx) a1.1), (1, .val .fn ((235, a1.2.1.2) : Nat × Int)), (7, .val i64 (a1.1.length : Int)), (8, .val i64 v402)], vr := [], lent := [] })
noncomputable def r0 (k : Nat) (a1 : Arg) : (Int) → Option Out := fun v402 => l0 k a1 (fun z => Q0 k a1 z) v402
theorem s0_eq (k : Nat) (a1 : Arg) : s0 k a1 = r0 k a1 := by
  funext v402;
  have h0 : X0_0 ((blockC 0 (seqC (codeK E k fin (sub [1, 1] C)) K0))) a1 = fun z => Q0 k a1 z := funext fun z => Q0_eq k a1 z
  refine (l0_eq k ((blockC 0 (seqC (codeK E k fin (sub [1, 1] C)) K0))) a1 v402).trans ?_
  rw [h0]
  rfl
noncomputable def p (l0 : (Int) → Option Out) (a1 : Arg) : Option Out := l0 (0 : Int)
noncomputable def raw (k : Nat) (a1 : Arg) : Option Out := p (r0 k a1) a1
theorem p_eq (k : Nat) (a1 : Arg) : bodyK E k Go.Proofs.Try.f234 ps rs [] [] a1 = p (s0 k a1) a1 := by kernel_rfl
theorem raw_eq (k : Nat) (a1 : Arg) : bodyK E k Go.Proofs.Try.f234 ps rs [] [] a1 = raw k a1 := (p_eq k a1).trans (by rw [s0_eq]; rfl)
theorem ent : EnterOk Go.Proofs.Try.prog 234 sig.cap := ⟨Go.Proofs.Try.f234, Go.Proofs.Try.func234, by kernel_rfl, by kernel_rfl, by kernel_rfl⟩
theorem env : EnvOk Go.Proofs.Try.prog E := env_ok (tl := [(29, (.slc tTx)), (220, tTx)]) (gl := [(235, impl_txAt_1.sig)]) rfl rfl (by kernel_rfl) (by kernel_rfl) (fn_cons impl_txAt_1.snd impl_txAt_1.ent (fn_nil _))
theorem chk : funOk Go.Proofs.Try.prog E Go.Proofs.Try.f234 ps rs [] = true := by kernel_rfl
theorem snd : Sound Go.Proofs.Try.prog 234 sig := sound_of_body env Go.Proofs.Try.func234 rfl (es := []) (fr := []) chk (fun _ _ h => lift_some h)
end slices_IndexFunc
namespace impl_txAt
/-! loop example g00408 impl txAt -/
abbrev Arg : Type := (List Tx) × Int × Unit
abbrev Out : Type := Int × Unit
noncomputable def ps : List (PM × Ty) := [(.ro, (.slc tTx)), (.ro, i64)]
noncomputable def rs : List (Ty × Md) := [(i64, (roMd i64))]
noncomputable def E : Env := { TI := lookN [(2, i64)], G := lookN [(234, slices_IndexFunc.sig)], fz := [], lv := [], lx := [], lf := [], od := [] }
noncomputable def sem (a : Arg) : Option Out := lift fun k => bodyK E k Go.Proofs.Try.f168 ps rs [] [] a
noncomputable def sig : Sig := { ps := ps, rs := rs, F := fun a => sem a }
noncomputable def C : Code := bodyOf Go.Proofs.Try.f168
noncomputable def fin : St → Option Out := outK ps rs [] (Func.results Go.Proofs.Try.f168).toList (mvs [])
noncomputable def K0 : Ex → St → Option Out := endK fin
noncomputable def p (a1 : Arg) : Option Out := (slices_IndexFunc.sem (a1.1, ((235, a1.2.1) : Nat × Int), ())).bind fun r2 => some (r2.1, ())
noncomputable def raw (k : Nat) (a1 : Arg) : Option Out := p a1
theorem p_eq (k : Nat) (a1 : Arg) : bodyK E k Go.Proofs.Try.f168 ps rs [] [] a1 = p a1 := by kernel_rfl
theorem raw_eq (k : Nat) (a1 : Arg) : bodyK E k Go.Proofs.Try.f168 ps rs [] [] a1 = raw k a1 := (p_eq k a1).trans (by rfl)
theorem ent : EnterOk Go.Proofs.Try.prog 168 sig.cap := ⟨Go.Proofs.Try.f168, Go.Proofs.Try.func168, by kernel_rfl, by kernel_rfl, by kernel_rfl⟩
theorem env : EnvOk Go.Proofs.Try.prog E := env_ok (tl := [(2, i64)]) (gl := [(234, slices_IndexFunc.sig)]) rfl rfl (by kernel_rfl) (by kernel_rfl) (fn_cons slices_IndexFunc.snd slices_IndexFunc.ent (fn_nil _))
theorem chk : funOk Go.Proofs.Try.prog E Go.Proofs.Try.f168 ps rs [] = true := by kernel_rfl
theorem snd : Sound Go.Proofs.Try.prog 168 sig := sound_of_body env Go.Proofs.Try.func168 rfl (es := []) (fr := []) chk (fun _ _ h => lift_some h)
end impl_txAt
namespace impl_lockOf
/-! loop example g00408 impl lockOf -/
abbrev Arg : Type := (List Tx) × Key × Unit
abbrev Out : Type := Int × Unit
noncomputable def ps : List (PM × Ty) := [(.ro, (.slc tTx)), (.ro, tKey)]
noncomputable def rs : List (Ty × Md) := [(i64, (roMd i64))]
noncomputable def E : Env := { TI := lookN [(2, i64), (29, (.slc tTx)), (214, tKey), (218, (.slc tKey)), (220, tTx)], G := lookN [(236, slices_Contains.sig)], fz := [], lv := [(2, [3, 7, 8, 9])], lx := [(0, [])], lf := [], od := [] }
noncomputable def sem (a : Arg) : Option Out := lift fun k => bodyK E k Go.Proofs.Try.f170 ps rs [] [] a
noncomputable def sig : Sig := { ps := ps, rs := rs, F := fun a => sem a }
noncomputable def C : Code := bodyOf Go.Proofs.Try.f170
noncomputable def fin : St → Option Out := outK ps rs [] (Func.results Go.Proofs.Try.f170).toList (mvs [])
noncomputable def K0 : Ex → St → Option Out := endK fin
noncomputable def S0 (rec : St → Option Out) (a1 : Arg) : (Int) → Option Out := fun v402 => rec ({ n := 20, sl := [(3, .box tKey (roMd tKey) [] a1.2.1), (7, .val (.slc tTx) a1.1), (8, .val i64 (a1.1.length : Int)), (9, .val i64 v402)], vr := [], lent := [] })
noncomputable def X0_0 (K : Ex → St → Option Out) (a1 : Arg) : (Unit) → Option Out := fun z => K (.exit 0) ({ n := 20, sl := [], vr := [], lent := [] })
noncomputable def b0 (self : Int → Option Out) (e0 : (Unit) → Option Out) (a1 : Arg) (v402 : Int) : Option Out := bif decide (v402 < (a1.1.length : Int)) then (if 0 ≤ v402 then ((a1.1[v402.toNat]?).bind fun x603 => (slices_Contains.sem (x603.2.2.2.1, a1.2.1, ())).bind fun r604 => bif r604.1 then (some (x603.1, ())) else self (w64 (v402 + (1 : Int)))) else none) else e0 ()
noncomputable def B0 (k : Nat) (self : Int → Option Out) (e0 : (Unit) → Option Out) (a1 : Arg) (v402 : Int) : Option Out := b0 self e0 a1 v402
theorem b0_eq (k : Nat) (rec : St → Option Out) (K : Ex → St → Option Out) (a1 : Arg) (v402 : Int) : codeK E k fin (sub [1, 0, 1, 0, 0] C) ({ n := 20, sl := [(3, .box tKey (roMd tKey) [] a1.2.1), (7, .val (.slc tTx) a1.1), (8, .val i64 (a1.1.length : Int)), (9, .val i64 v402)], vr := [], lent := [] }) (loopC rec (keepF [3, 7, 8, 9] []) K) = b0 (S0 rec a1) (X0_0 K a1) a1 v402 := by kernel_rfl
theorem B0_eq (k : Nat) (rec : St → Option Out) (K : Ex → St → Option Out) (a1 : Arg) (v402 : Int) : codeK E k fin (sub [1, 0, 1, 0, 0] C) ({ n := 20, sl := [(3, .box tKey (roMd tKey) [] a1.2.1), (7, .val (.slc tTx) a1.1), (8, .val i64 (a1.1.length : Int)), (9, .val i64 v402)], vr := [], lent := [] }) (loopC rec (keepF [3, 7, 8, 9] []) K) = B0 k (S0 rec a1) (X0_0 K a1) a1 v402 := (b0_eq k rec K a1 v402).trans (by rfl)
noncomputable def l0 (k : Nat) (a1 : Arg) (e0 : (Unit) → Option Out) (v : Int) : Option Out := rawIter (fun self v => B0 k self e0 a1 v) k v
theorem l0_eq (k : Nat) (K : Ex → St → Option Out) (a1 : Arg) (v402 : Int) : iterK (codeK E k fin (sub [1, 0, 1, 0, 0] C)) (keepF [3, 7, 8, 9] []) K k ({ n := 20, sl := [(3, .box tKey (roMd tKey) [] a1.2.1), (7, .val (.slc tTx) a1.1), (8, .val i64 (a1.1.length : Int)), (9, .val i64 v402)], vr := [], lent := [] }) = l0 k a1 (X0_0 K a1) v402 :=
  iter_raw _ _ K (fun v402 => ({ n := 20, sl := [(3, .box tKey (roMd tKey) [] a1.2.1), (7, .val (.slc tTx) a1.1), (8, .val i64 (a1.1.length : Int)), (9, .val i64 v402)], vr := [], lent := [] } : St)) (fun self v => B0 k self (X0_0 K a1) a1 v) (fun rec v => B0_eq k rec K a1 v) k v402
noncomputable def q0 (a1 : Arg) (z605 : (Unit)) : Option Out := some ((0 : Int), ())
noncomputable def Q0 (k : Nat) (a1 : Arg) (z605 : (Unit)) : Option Out := q0 a1 z605
theorem q0_eq (k : Nat) (a1 : Arg) (z605 : (Unit)) : (blockC 0 (seqC (codeK E k fin (sub [1, 1] C)) K0)) (.exit 0) ({ n := 20, sl := [], vr := [], lent := [] }) = q0 a1 z605 := by kernel_rfl
theorem Q0_eq (k : Nat) (a1 : Arg) (z605 : (Unit)) : (blockC 0 (seqC (codeK E k fin (sub [1, 1] C)) K0)) (.exit 0) ({ n := 20, sl := [], vr := [], lent := [] }) = Q0 k a1 z605 := (q0_eq k a1 z605).trans (by rfl)
noncomputable def s0 (k : Nat) (a1 : Arg) : (Int) → Option Out := fun v402 => iterK (codeK E k fin (sub [1, 0, 1, 0, 0] C)) (keepF [3, 7, 8, 9] []) (blockC 0 (seqC (codeK E k fin (sub [1, 1] C)) K0)) k ({ n := 20, sl := [(3, .box tKey (roMd tKey) [] a1.2.1), (7, .val (.slc tTx) a1.1), (8, .val i64 (a1.1.length : Int)), (9, .val i64 v402)], vr := [], lent := [] })
noncomputable def r0 (k : Nat) (a1 : Arg) : (Int) → Option Out := fun v402 => l0 k a1 (fun z => Q0 k a1 z) v402
theorem s0_eq (k : Nat) (a1 : Arg) : s0 k a1 = r0 k a1 := by
  funext v402;
  have h0 : X0_0 ((blockC 0 (seqC (codeK E k fin (sub [1, 1] C)) K0))) a1 = fun z => Q0 k a1 z := funext fun z => Q0_eq k a1 z
  refine (l0_eq k ((blockC 0 (seqC (codeK E k fin (sub [1, 1] C)) K0))) a1 v402).trans ?_
  rw [h0]
  rfl
noncomputable def p (l0 : (Int) → Option Out) (a1 : Arg) : Option Out := l0 (0 : Int)
noncomputable def raw (k : Nat) (a1 : Arg) : Option Out := p (r0 k a1) a1
theorem p_eq (k : Nat) (a1 : Arg) : bodyK E k Go.Proofs.Try.f170 ps rs [] [] a1 = p (s0 k a1) a1 := by kernel_rfl
theorem raw_eq (k : Nat) (a1 : Arg) : bodyK E k Go.Proofs.Try.f170 ps rs [] [] a1 = raw k a1 := (p_eq k a1).trans (by rw [s0_eq]; rfl)
theorem ent : EnterOk Go.Proofs.Try.prog 170 sig.cap := ⟨Go.Proofs.Try.f170, Go.Proofs.Try.func170, by kernel_rfl, by kernel_rfl, by kernel_rfl⟩
theorem env : EnvOk Go.Proofs.Try.prog E := env_ok (tl := [(2, i64), (29, (.slc tTx)), (214, tKey), (218, (.slc tKey)), (220, tTx)]) (gl := [(236, slices_Contains.sig)]) rfl rfl (by kernel_rfl) (by kernel_rfl) (fn_cons slices_Contains.snd slices_Contains.ent (fn_nil _))
theorem chk : funOk Go.Proofs.Try.prog E Go.Proofs.Try.f170 ps rs [] = true := by kernel_rfl
theorem snd : Sound Go.Proofs.Try.prog 170 sig := sound_of_body env Go.Proofs.Try.func170 rfl (es := []) (fr := []) chk (fun _ _ h => lift_some h)
end impl_lockOf
namespace slices_Clone_int64
/-! slices Clone   int64 int64  -/
abbrev Arg : Type := (List Int) × Unit
abbrev Out : Type := (List Int) × Unit
noncomputable def ps : List (PM × Ty) := [(.ro, (.slc i64))]
noncomputable def rs : List (Ty × Md) := [((.slc i64), (ownMd (.slc i64)))]
noncomputable def E : Env := { TI := lookN [(205, (.slc i64))], G := lookN [], fz := [], lv := [], lx := [], lf := [], od := [] }
noncomputable def sem (a : Arg) : Option Out := lift fun k => bodyK E k Go.Proofs.Try.f270 ps rs [] [] a
noncomputable def sig : Sig := { ps := ps, rs := rs, F := fun a => sem a }
noncomputable def C : Code := bodyOf Go.Proofs.Try.f270
noncomputable def fin : St → Option Out := outK ps rs [] (Func.results Go.Proofs.Try.f270).toList (mvs [])
noncomputable def K0 : Ex → St → Option Out := endK fin
noncomputable def p (a1 : Arg) : Option Out := nilB a1.1 (some (([] : List Int), ())) (if ([] : List Int).length + a1.1.length ≤ CAP then (some (([] : List Int) ++ a1.1, ())) else none)
noncomputable def raw (k : Nat) (a1 : Arg) : Option Out := p a1
theorem p_eq (k : Nat) (a1 : Arg) : bodyK E k Go.Proofs.Try.f270 ps rs [] [] a1 = p a1 := by kernel_rfl
theorem raw_eq (k : Nat) (a1 : Arg) : bodyK E k Go.Proofs.Try.f270 ps rs [] [] a1 = raw k a1 := (p_eq k a1).trans (by rfl)
theorem ent : EnterOk Go.Proofs.Try.prog 270 sig.cap := ⟨Go.Proofs.Try.f270, Go.Proofs.Try.func270, by kernel_rfl, by kernel_rfl, by kernel_rfl⟩
theorem env : EnvOk Go.Proofs.Try.prog E := env_ok (tl := [(205, (.slc i64))]) (gl := []) rfl rfl (by kernel_rfl) (by kernel_rfl) (fn_nil _)
theorem chk : funOk Go.Proofs.Try.prog E Go.Proofs.Try.f270 ps rs [] = true := by kernel_rfl
theorem snd : Sound Go.Proofs.Try.prog 270 sig := sound_of_body env Go.Proofs.Try.func270 rfl (es := []) (fr := []) chk (fun _ _ h => lift_some h)
end slices_Clone_int64
namespace slices_Clone_Key
/-! slices Clone   loop example g00408 impl Key loop example g00408 impl Key  -/
abbrev Arg : Type := (List Key) × Unit
abbrev Out : Type := (List Key) × Unit
noncomputable def ps : List (PM × Ty) := [(.ro, (.slc tKey))]
noncomputable def rs : List (Ty × Md) := [((.slc tKey), (ownMd (.slc tKey)))]
noncomputable def E : Env := { TI := lookN [(218, (.slc tKey))], G := lookN [], fz := [], lv := [], lx := [], lf := [], od := [] }
noncomputable def sem (a : Arg) : Option Out := lift fun k => bodyK E k Go.Proofs.Try.f271 ps rs [] [] a
noncomputable def sig : Sig := { ps := ps, rs := rs, F := fun a => sem a }
noncomputable def C : Code := bodyOf Go.Proofs.Try.f271
noncomputable def fin : St → Option Out := outK ps rs [] (Func.results Go.Proofs.Try.f271).toList (mvs [])
noncomputable def K0 : Ex → St → Option Out := endK fin
noncomputable def p (a1 : Arg) : Option Out := nilB a1.1 (some (([] : List Key), ())) (if ([] : List Key).length + a1.1.length ≤ CAP then (some (([] : List Key) ++ a1.1, ())) else none)
noncomputable def raw (k : Nat) (a1 : Arg) : Option Out := p a1
theorem p_eq (k : Nat) (a1 : Arg) : bodyK E k Go.Proofs.Try.f271 ps rs [] [] a1 = p a1 := by kernel_rfl
theorem raw_eq (k : Nat) (a1 : Arg) : bodyK E k Go.Proofs.Try.f271 ps rs [] [] a1 = raw k a1 := (p_eq k a1).trans (by rfl)
theorem ent : EnterOk Go.Proofs.Try.prog 271 sig.cap := ⟨Go.Proofs.Try.f271, Go.Proofs.Try.func271, by kernel_rfl, by kernel_rfl, by kernel_rfl⟩
theorem env : EnvOk Go.Proofs.Try.prog E := env_ok (tl := [(218, (.slc tKey))]) (gl := []) rfl rfl (by kernel_rfl) (by kernel_rfl) (fn_nil _)
theorem chk : funOk Go.Proofs.Try.prog E Go.Proofs.Try.f271 ps rs [] = true := by kernel_rfl
theorem snd : Sound Go.Proofs.Try.prog 271 sig := sound_of_body env Go.Proofs.Try.func271 rfl (es := []) (fr := []) chk (fun _ _ h => lift_some h)
end slices_Clone_Key
namespace impl_ownTxs
/-! loop example g00408 impl ownTxs -/
abbrev Arg : Type := (List Tx) × Unit
abbrev Out : Type := (List Tx) × Unit
noncomputable def ps : List (PM × Ty) := [(.ro, (.slc tTx))]
noncomputable def rs : List (Ty × Md) := [((.slc tTx), (ownMd (.slc tTx)))]
noncomputable def E : Env := { TI := lookN [(2, i64), (29, (.slc tTx)), (141, (.slc tChange)), (205, (.slc i64)), (218, (.slc tKey)), (220, tTx)], G := lookN [(261, slices_Clone_Change.sig), (270, slices_Clone_int64.sig), (271, slices_Clone_Key.sig)], fz := [], lv := [(3, [3, 6, 7, 8])], lx := [(0, [3])], lf := [], od := [(5, [0, 1, 2, 3, 4, 6, 7, 9, 10, 5, 8, 11, 12, 13, 14, 15])] }
noncomputable def sem (a : Arg) : Option Out := lift fun k => bodyK E k Go.Proofs.Try.f238 ps rs [] [] a
noncomputable def sig : Sig := { ps := ps, rs := rs, F := fun a => sem a }
noncomputable def C : Code := bodyOf Go.Proofs.Try.f238
noncomputable def fin : St → Option Out := outK ps rs [] (Func.results Go.Proofs.Try.f238).toList (mvs [])
noncomputable def K0 : Ex → St → Option Out := endK fin
noncomputable def S0 (rec : St → Option Out) (a1 : Arg) : ((List Tx) × Int) → Option Out := fun v402 => rec ({ n := 29, sl := [(3, .own (.slc tTx) (ownMd (.slc tTx)) [] v402.1), (6, .val (.slc tTx) a1.1), (7, .val i64 (a1.1.length : Int)), (8, .val i64 v402.2)], vr := [], lent := [] })
noncomputable def X0_0 (K : Ex → St → Option Out) (a1 : Arg) : (List Tx) → Option Out := fun z => K (.exit 0) ({ n := 29, sl := [(3, .own (.slc tTx) (ownMd (.slc tTx)) [] z)], vr := [], lent := [] })
noncomputable def b0 (self : ((List Tx) × Int) → Option Out) (e0 : (List Tx) → Option Out) (a1 : Arg) (v402 : (List Tx) × Int) : Option Out := bif decide (v402.2 < (a1.1.length : Int)) then (if 0 ≤ v402.2 then ((a1.1[v402.2.toNat]?).bind fun x603 => (slices_Clone_Change.sem (x603.2.1, ())).bind fun r604 => (slices_Clone_int64.sem (x603.2.2.1, ())).bind fun r605 => (slices_Clone_Key.sem (x603.2.2.2.1, ())).bind fun r606 => if v402.1.length + [(x603.1, r604.1, r605.1, r606.1, ())].length ≤ CAP then (let y607 := v402.1 ++ [(x603.1, r604.1, r605.1, r606.1, ())]; self (y607, w64 (v402.2 + (1 : Int)))) else none) else none) else e0 v402.1
noncomputable def B0 (k : Nat) (self : ((List Tx) × Int) → Option Out) (e0 : (List Tx) → Option Out) (a1 : Arg) (v402 : (List Tx) × Int) : Option Out := b0 self e0 a1 v402
theorem b0_eq (k : Nat) (rec : St → Option Out) (K : Ex → St → Option Out) (a1 : Arg) (v402 : (List Tx) × Int) : codeK E k fin (sub [1, 1, 0, 1, 0, 0] C) ({ n := 29, sl := [(3, .own (.slc tTx) (ownMd (.slc tTx)) [] v402.1), (6, .val (.slc tTx) a1.1), (7, .val i64 (a1.1.length : Int)), (8, .val i64 v402.2)], vr := [], lent := [] }) (loopC rec (keepF [3, 6, 7, 8] []) K) = b0 (S0 rec a1) (X0_0 K a1) a1 v402 := by kernel_rfl
theorem B0_eq (k : Nat) (rec : St → Option Out) (K : Ex → St → Option Out) (a1 : Arg) (v402 : (List Tx) × Int) : codeK E k fin (sub [1, 1, 0, 1, 0, 0] C) ({ n := 29, sl := [(3, .own (.slc tTx) (ownMd (.slc tTx)) [] v402.1), (6, .val (.slc tTx) a1.1), (7, .val i64 (a1.1.length : Int)), (8, .val i64 v402.2)], vr := [], lent := [] }) (loopC rec (keepF [3, 6, 7, 8] []) K) = B0 k (S0 rec a1) (X0_0 K a1) a1 v402 := (b0_eq k rec K a1 v402).trans (by rfl)
noncomputable def l0 (k : Nat) (a1 : Arg) (e0 : (List Tx) → Option Out) (v : (List Tx) × Int) : Option Out := rawIter (fun self v => B0 k self e0 a1 v) k v
theorem l0_eq (k : Nat) (K : Ex → St → Option Out) (a1 : Arg) (v402 : (List Tx) × Int) : iterK (codeK E k fin (sub [1, 1, 0, 1, 0, 0] C)) (keepF [3, 6, 7, 8] []) K k ({ n := 29, sl := [(3, .own (.slc tTx) (ownMd (.slc tTx)) [] v402.1), (6, .val (.slc tTx) a1.1), (7, .val i64 (a1.1.length : Int)), (8, .val i64 v402.2)], vr := [], lent := [] }) = l0 k a1 (X0_0 K a1) v402 :=
  iter_raw _ _ K (fun v402 => ({ n := 29, sl := [(3, .own (.slc tTx) (ownMd (.slc tTx)) [] v402.1), (6, .val (.slc tTx) a1.1), (7, .val i64 (a1.1.length : Int)), (8, .val i64 v402.2)], vr := [], lent := [] } : St)) (fun self v => B0 k self (X0_0 K a1) a1 v) (fun rec v => B0_eq k rec K a1 v) k v402
noncomputable def q0 (a1 : Arg) (z608 : (List Tx)) : Option Out := some (z608, ())
noncomputable def Q0 (k : Nat) (a1 : Arg) (z608 : (List Tx)) : Option Out := q0 a1 z608
theorem q0_eq (k : Nat) (a1 : Arg) (z608 : (List Tx)) : (blockC 0 (seqC (codeK E k fin (sub [1, 1, 1] C)) K0)) (.exit 0) ({ n := 29, sl := [(3, .own (.slc tTx) (ownMd (.slc tTx)) [] z608)], vr := [], lent := [] }) = q0 a1 z608 := by kernel_rfl
theorem Q0_eq (k : Nat) (a1 : Arg) (z608 : (List Tx)) : (blockC 0 (seqC (codeK E k fin (sub [1, 1, 1] C)) K0)) (.exit 0) ({ n := 29, sl := [(3, .own (.slc tTx) (ownMd (.slc tTx)) [] z608)], vr := [], lent := [] }) = Q0 k a1 z608 := (q0_eq k a1 z608).trans (by rfl)
noncomputable def s0 (k : Nat) (a1 : Arg) : ((List Tx) × Int) → Option Out := fun v402 => iterK (codeK E k fin (sub [1, 1, 0, 1, 0, 0] C)) (keepF [3, 6, 7, 8] []) (blockC 0 (seqC (codeK E k fin (sub [1, 1, 1] C)) K0)) k ({ n := 29, sl := [(3, .own (.slc tTx) (ownMd (.slc tTx)) [] v402.1), (6, .val (.slc tTx) a1.1), (7, .val i64 (a1.1.length : Int)), (8, .val i64 v402.2)], vr := [], lent := [] })
noncomputable def r0 (k : Nat) (a1 : Arg) : ((List Tx) × Int) → Option Out := fun v402 => l0 k a1 (fun z => Q0 k a1 z) v402
theorem s0_eq (k : Nat) (a1 : Arg) : s0 k a1 = r0 k a1 := by
  funext v402;
  have h0 : X0_0 ((blockC 0 (seqC (codeK E k fin (sub [1, 1, 1] C)) K0))) a1 = fun z => Q0 k a1 z := funext fun z => Q0_eq k a1 z
  refine (l0_eq k ((blockC 0 (seqC (codeK E k fin (sub [1, 1, 1] C)) K0))) a1 v402).trans ?_
  rw [h0]
  rfl
noncomputable def p (l0 : ((List Tx) × Int) → Option Out) (a1 : Arg) : Option Out := l0 (([] : List Tx), (0 : Int))
noncomputable def raw (k : Nat) (a1 : Arg) : Option Out := p (r0 k a1) a1
theorem p_eq (k : Nat) (a1 : Arg) : bodyK E k Go.Proofs.Try.f238 ps rs [] [] a1 = p (s0 k a1) a1 := by kernel_rfl
theorem raw_eq (k : Nat) (a1 : Arg) : bodyK E k Go.Proofs.Try.f238 ps rs [] [] a1 = raw k a1 := (p_eq k a1).trans (by rw [s0_eq]; rfl)
theorem ent : EnterOk Go.Proofs.Try.prog 238 sig.cap := ⟨Go.Proofs.Try.f238, Go.Proofs.Try.func238, by kernel_rfl, by kernel_rfl, by kernel_rfl⟩
theorem env : EnvOk Go.Proofs.Try.prog E := env_ok (tl := [(2, i64), (29, (.slc tTx)), (141, (.slc tChange)), (205, (.slc i64)), (218, (.slc tKey)), (220, tTx)]) (gl := [(261, slices_Clone_Change.sig), (270, slices_Clone_int64.sig), (271, slices_Clone_Key.sig)]) rfl rfl (by kernel_rfl) (by kernel_rfl) (fn_cons slices_Clone_Change.snd slices_Clone_Change.ent (fn_cons slices_Clone_int64.snd slices_Clone_int64.ent (fn_cons slices_Clone_Key.snd slices_Clone_Key.ent (fn_nil _))))
theorem chk : funOk Go.Proofs.Try.prog E Go.Proofs.Try.f238 ps rs [] = true := by kernel_rfl
theorem snd : Sound Go.Proofs.Try.prog 238 sig := sound_of_body env Go.Proofs.Try.func238 rfl (es := []) (fr := []) chk (fun _ _ h => lift_some h)
end impl_ownTxs
namespace impl_noted
/-! loop example g00408 impl noted -/
abbrev Arg : Type := (List Tx) × Int × Change × Unit
abbrev Out : Type := (List Tx) × Unit
noncomputable def ps : List (PM × Ty) := [(.ro, (.slc tTx)), (.ro, i64), (.ro, tChange)]
noncomputable def rs : List (Ty × Md) := [((.slc tTx), (ownMd (.slc tTx)))]
noncomputable def E : Env := { TI := lookN [(29, (.slc tTx)), (130, tChange), (141, (.slc tChange)), (218, (.slc tKey)), (220, tTx)], G := lookN [(171, impl_Change_lock.sig), (236, slices_Contains.sig), (238, impl_ownTxs.sig)], fz := [], lv := [], lx := [], lf := [], od := [(3, [0, 1, 2, 3, 4, 5, 6, 7, 8, 9, 10]), (4, [0, 1, 2, 3, 4, 5, 6, 7]), (5, [0, 1, 2, 3, 4, 5, 6, 7, 8, 9, 10, 11])] }
noncomputable def sem (a : Arg) : Option Out := lift fun k => bodyK E k Go.Proofs.Try.f173 ps rs [] [] a
noncomputable def sig : Sig := { ps := ps, rs := rs, F := fun a => sem a }
noncomputable def C : Code := bodyOf Go.Proofs.Try.f173
noncomputable def fin : St → Option Out := outK ps rs [] (Func.results Go.Proofs.Try.f173).toList (mvs [])
noncomputable def K0 : Ex → St → Option Out := endK fin
noncomputable def p (a1 : Arg) : Option Out := (impl_ownTxs.sem (a1.1, ())).bind fun r2 => if 0 ≤ a1.2.1 ∧ a1.2.1 < (r2.1.length : Int) then ((r2.1[a1.2.1.toNat]?).bind fun x3 => (r2.1[a1.2.1.toNat]?).bind fun x4 => (r2.1[a1.2.1.toNat]?).bind fun x5 => if x4.2.1.length + [a1.2.2.1].length ≤ CAP then (if a1.2.1.toNat = a1.2.1.toNat then ((r2.1.set a1.2.1.toNat x5)[a1.2.1.toNat]?).bind fun x6 => let y7 := (r2.1.set a1.2.1.toNat x5).set a1.2.1.toNat (x6.1, x4.2.1 ++ [a1.2.2.1], x6.2.2); (y7[a1.2.1.toNat]?).bind fun x8 => (impl_Change_lock.sem (a1.2.2.1, ())).bind fun r9 => (y7[a1.2.1.toNat]?).bind fun x10 => (slices_Contains.sem (x10.2.2.2.1, r9.1, ())).bind fun r11 => bif !r11.1 then ((y7[a1.2.1.toNat]?).bind fun x12 => (impl_Change_lock.sem (a1.2.2.1, ())).bind fun r13 => (y7[a1.2.1.toNat]?).bind fun x14 => (y7[a1.2.1.toNat]?).bind fun x15 => if x14.2.2.2.1.length + [r13.1].length ≤ CAP then (if a1.2.1.toNat = a1.2.1.toNat then ((y7.set a1.2.1.toNat x15)[a1.2.1.toNat]?).bind fun x16 => let y17 := (y7.set a1.2.1.toNat x15).set a1.2.1.toNat (x16.1, x16.2.1, x16.2.2.1, x14.2.2.2.1 ++ [r13.1], x16.2.2.2.2); some (y17, ()) else none) else none) else some (y7, ()) else none) else none) else none
noncomputable def raw (k : Nat) (a1 : Arg) : Option Out := p a1
theorem p_eq (k : Nat) (a1 : Arg) : bodyK E k Go.Proofs.Try.f173 ps rs [] [] a1 = p a1 := by kernel_rfl
theorem raw_eq (k : Nat) (a1 : Arg) : bodyK E k Go.Proofs.Try.f173 ps rs [] [] a1 = raw k a1 := (p_eq k a1).trans (by rfl)
theorem ent : EnterOk Go.Proofs.Try.prog 173 sig.cap := ⟨Go.Proofs.Try.f173, Go.Proofs.Try.func173, by kernel_rfl, by kernel_rfl, by kernel_rfl⟩
theorem env : EnvOk Go.Proofs.Try.prog E := env_ok (tl := [(29, (.slc tTx)), (130, tChange), (141, (.slc tChange)), (218, (.slc tKey)), (220, tTx)]) (gl := [(171, impl_Change_lock.sig), (236, slices_Contains.sig), (238, impl_ownTxs.sig)]) rfl rfl (by kernel_rfl) (by kernel_rfl) (fn_cons impl_Change_lock.snd impl_Change_lock.ent (fn_cons slices_Contains.snd slices_Contains.ent (fn_cons impl_ownTxs.snd impl_ownTxs.ent (fn_nil _))))
theorem chk : funOk Go.Proofs.Try.prog E Go.Proofs.Try.f173 ps rs [] = true := by kernel_rfl
theorem snd : Sound Go.Proofs.Try.prog 173 sig := sound_of_body env Go.Proofs.Try.func173 rfl (es := []) (fr := []) chk (fun _ _ h => lift_some h)
end impl_noted
namespace impl_NoteChange
/-! loop example g00408 impl NoteChange -/
abbrev Arg : Type := (List Tx) × Int × Change × Unit
abbrev Out : Type := TxsResult × Unit
noncomputable def ps : List (PM × Ty) := [(.ro, (.slc tTx)), (.ro, i64), (.ro, tChange)]
noncomputable def rs : List (Ty × Md) := [(tTxsResult, (ownMd tTxsResult))]
noncomputable def E : Env := { TI := lookN [(29, (.slc tTx)), (125, tTxsResult), (130, tChange), (218, (.slc tKey)), (220, tTx)], G := lookN [(167, impl_TxsFault.sig), (168, impl_txAt.sig), (169, impl_singleFault.sig), (170, impl_lockOf.sig), (171, impl_Change_lock.sig), (172, impl_undone.sig), (173, impl_noted.sig)], fz := [], lv := [], lx := [], lf := [], od := [] }
noncomputable def sem (a : Arg) : Option Out := lift fun k => bodyK E k Go.Proofs.Try.f77 ps rs [] [] a
noncomputable def sig : Sig := { ps := ps, rs := rs, F := fun a => sem a }
noncomputable def C : Code := bodyOf Go.Proofs.Try.f77
noncomputable def fin : St → Option Out := outK ps rs [] (Func.results Go.Proofs.Try.f77).toList (mvs [])
noncomputable def K0 : Ex → St → Option Out := endK fin
noncomputable def p (a1 : Arg) : Option Out := (impl_TxsFault.sem (a1.1, ())).bind fun r2 => bif !decide (r2.1 = (0 : Int)) then (some ((r2.1, ([] : List Tx), ()), ())) else (impl_txAt.sem (a1.1, a1.2.1, ())).bind fun r3 => bif decide (r3.1 < (0 : Int)) then (some (((4 : Int), ([] : List Tx), ()), ())) else (impl_singleFault.sem (a1.2.2.1, ())).bind fun r4 => bif !decide (r4.1 = (0 : Int)) then (some ((r4.1, ([] : List Tx), ()), ())) else (impl_Change_lock.sem (a1.2.2.1, ())).bind fun r5 => (impl_lockOf.sem (a1.1, r5.1, ())).bind fun r6 => let j11 : Option Out := (impl_undone.sem (a1.1, ())).bind fun r12 => bif decide ((12 : Int) ≤ r12.1) then (some (((2 : Int), ([] : List Tx), ()), ())) else bif decide (r6.1 = (0 : Int)) then (if 0 ≤ r3.1 then ((a1.1[r3.1.toNat]?).bind fun x13 => bif decide ((12 : Int) ≤ (x13.2.2.2.1.length : Int)) then (some (((2 : Int), ([] : List Tx), ()), ())) else (impl_noted.sem (a1.1, r3.1, a1.2.2.1, ())).bind fun r15 => some (((0 : Int), r15.1, ()), ())) else none) else (impl_noted.sem (a1.1, r3.1, a1.2.2.1, ())).bind fun r16 => some (((0 : Int), r16.1, ()), ()); bif !decide (r6.1 = (0 : Int)) then (bif !decide (r6.1 = a1.2.1) then (some (((7 : Int), ([] : List Tx), ()), ())) else j11) else j11
noncomputable def raw (k : Nat) (a1 : Arg) : Option Out := p a1
theorem p_eq (k : Nat) (a1 : Arg) : bodyK E k Go.Proofs.Try.f77 ps rs [] [] a1 = p a1 := by kernel_rfl
theorem raw_eq (k : Nat) (a1 : Arg) : bodyK E k Go.Proofs.Try.f77 ps rs [] [] a1 = raw k a1 := (p_eq k a1).trans (by rfl)
theorem ent : EnterOk Go.Proofs.Try.prog 77 sig.cap := ⟨Go.Proofs.Try.f77, Go.Proofs.Try.func77, by kernel_rfl, by kernel_rfl, by kernel_rfl⟩
theorem env : EnvOk Go.Proofs.Try.prog E := env_ok (tl := [(29, (.slc tTx)), (125, tTxsResult), (130, tChange), (218, (.slc tKey)), (220, tTx)]) (gl := [(167, impl_TxsFault.sig), (168, impl_txAt.sig), (169, impl_singleFault.sig), (170, impl_lockOf.sig), (171, impl_Change_lock.sig), (172, impl_undone.sig), (173, impl_noted.sig)]) rfl rfl (by kernel_rfl) (by kernel_rfl) (fn_cons impl_TxsFault.snd impl_TxsFault.ent (fn_cons impl_txAt.snd impl_txAt.ent (fn_cons impl_singleFault.snd impl_singleFault.ent (fn_cons impl_lockOf.snd impl_lockOf.ent (fn_cons impl_Change_lock.snd impl_Change_lock.ent (fn_cons impl_undone.snd impl_undone.ent (fn_cons impl_noted.snd impl_noted.ent (fn_nil _))))))))
theorem chk : funOk Go.Proofs.Try.prog E Go.Proofs.Try.f77 ps rs [] = true := by kernel_rfl
theorem snd : Sound Go.Proofs.Try.prog 77 sig := sound_of_body env Go.Proofs.Try.func77 rfl (es := []) (fr := []) chk (fun _ _ h => lift_some h)
end impl_NoteChange
namespace laws_eqTxsResult
/-! loop example g00408 laws eqTxsResult -/
abbrev Arg : Type := TxsResult × TxsResult × Unit
abbrev Out : Type := Bool × Unit
noncomputable def ps : List (PM × Ty) := [(.ro, tTxsResult), (.ro, tTxsResult)]
noncomputable def rs : List (Ty × Md) := [(.bool, (roMd .bool))]
noncomputable def E : Env := { TI := lookN [(2, i64), (29, (.slc tTx)), (125, tTxsResult)], G := lookN [(79, laws_eqTxS.sig)], fz := [], lv := [], lx := [], lf := [], od := [] }
noncomputable def sem (a : Arg) : Option Out := lift fun k => bodyK E k Go.Proofs.Try.f78 ps rs [] [] a
noncomputable def sig : Sig := { ps := ps, rs := rs, F := fun a => sem a }
noncomputable def C : Code := bodyOf Go.Proofs.Try.f78
noncomputable def fin : St → Option Out := outK ps rs [] (Func.results Go.Proofs.Try.f78).toList (mvs [])
noncomputable def K0 : Ex → St → Option Out := endK fin
noncomputable def p (a1 : Arg) : Option Out := bif !decide (a1.1.1 = a1.2.1.1) then (some (false, ())) else (laws_eqTxS.sem (a1.1.2.1, a1.2.1.2.1, ())).bind fun r2 => bif !r2.1 then (some (false, ())) else some (true, ())
noncomputable def raw (k : Nat) (a1 : Arg) : Option Out := p a1
theorem p_eq (k : Nat) (a1 : Arg) : bodyK E k Go.Proofs.Try.f78 ps rs [] [] a1 = p a1 := by kernel_rfl
theorem raw_eq (k : Nat) (a1 : Arg) : bodyK E k Go.Proofs.Try.f78 ps rs [] [] a1 = raw k a1 := (p_eq k a1).trans (by rfl)
theorem ent : EnterOk Go.Proofs.Try.prog 78 sig.cap := ⟨Go.Proofs.Try.f78, Go.Proofs.Try.func78, by kernel_rfl, by kernel_rfl, by kernel_rfl⟩
theorem env : EnvOk Go.Proofs.Try.prog E := env_ok (tl := [(2, i64), (29, (.slc tTx)), (125, tTxsResult)]) (gl := [(79, laws_eqTxS.sig)]) rfl rfl (by kernel_rfl) (by kernel_rfl) (fn_cons laws_eqTxS.snd laws_eqTxS.ent (fn_nil _))
theorem chk : funOk Go.Proofs.Try.prog E Go.Proofs.Try.f78 ps rs [] = true := by kernel_rfl
theorem snd : Sound Go.Proofs.Try.prog 78 sig := sound_of_body env Go.Proofs.Try.func78 rfl (es := []) (fr := []) chk (fun _ _ h => lift_some h)
end laws_eqTxsResult
namespace laws_markTxsResult
/-! loop example g00408 laws markTxsResult -/
abbrev Arg : Type := TxsResult × Int × Unit
abbrev Out : Type := Int × TxsResult × Unit
noncomputable def ps : List (PM × Ty) := [(.muts (ownMd tTxsResult), tTxsResult), (.ro, i64)]
noncomputable def rs : List (Ty × Md) := [(i64, (roMd i64))]
noncomputable def E : Env := { TI := lookN [(29, (.slc tTx)), (125, tTxsResult)], G := lookN [(80, laws_markTxS.sig)], fz := [], lv := [], lx := [], lf := [], od := [] }
noncomputable def sem (a : Arg) : Option Out := lift fun k => bodyK E k Go.Proofs.Try.f81 ps rs [2] [] a
noncomputable def sig : Sig := { ps := ps, rs := rs, F := fun a => sem a }
noncomputable def C : Code := bodyOf Go.Proofs.Try.f81
noncomputable def fin : St → Option Out := outK ps rs [2] (Func.results Go.Proofs.Try.f81).toList (mvs [])
noncomputable def K0 : Ex → St → Option Out := endK fin
noncomputable def p (a1 : Arg) : Option Out := (laws_markTxS.sem (a1.1.2.1, a1.2.1, ())).bind fun r2 => some (r2.1, (a1.1.1, r2.2.1, a1.1.2.2), ())
noncomputable def raw (k : Nat) (a1 : Arg) : Option Out := p a1
theorem p_eq (k : Nat) (a1 : Arg) : bodyK E k Go.Proofs.Try.f81 ps rs [2] [] a1 = p a1 := by kernel_rfl
theorem raw_eq (k : Nat) (a1 : Arg) : bodyK E k Go.Proofs.Try.f81 ps rs [2] [] a1 = raw k a1 := (p_eq k a1).trans (by rfl)
theorem ent : EnterOk Go.Proofs.Try.prog 81 sig.cap := ⟨Go.Proofs.Try.f81, Go.Proofs.Try.func81, by kernel_rfl, by kernel_rfl, by kernel_rfl⟩
theorem env : EnvOk Go.Proofs.Try.prog E := env_ok (tl := [(29, (.slc tTx)), (125, tTxsResult)]) (gl := [(80, laws_markTxS.sig)]) rfl rfl (by kernel_rfl) (by kernel_rfl) (fn_cons laws_markTxS.snd laws_markTxS.ent (fn_nil _))
theorem chk : funOk Go.Proofs.Try.prog E Go.Proofs.Try.f81 ps rs [2] = true := by kernel_rfl
theorem snd : Sound Go.Proofs.Try.prog 81 sig := sound_of_body env Go.Proofs.Try.func81 rfl (es := [2]) (fr := []) chk (fun _ _ h => lift_some h)
end laws_markTxsResult
namespace laws_heldTxsResult
/-! loop example g00408 laws heldTxsResult -/
abbrev Arg : Type := TxsResult × Int × Unit
abbrev Out : Type := Int × Unit
noncomputable def ps : List (PM × Ty) := [(.ro, tTxsResult), (.ro, i64)]
noncomputable def rs : List (Ty × Md) := [(i64, (roMd i64))]
noncomputable def E : Env := { TI := lookN [(29, (.slc tTx)), (125, tTxsResult)], G := lookN [(177, laws_heldTxS.sig)], fz := [], lv := [], lx := [], lf := [], od := [] }
noncomputable def sem (a : Arg) : Option Out := lift fun k => bodyK E k Go.Proofs.Try.f82 ps rs [] [] a
noncomputable def sig : Sig := { ps := ps, rs := rs, F := fun a => sem a }
noncomputable def C : Code := bodyOf Go.Proofs.Try.f82
noncomputable def fin : St → Option Out := outK ps rs [] (Func.results Go.Proofs.Try.f82).toList (mvs [])
noncomputable def K0 : Ex → St → Option Out := endK fin
noncomputable def p (a1 : Arg) : Option Out := (laws_heldTxS.sem (a1.1.2.1, a1.2.1, ())).bind fun r2 => bif decide (r2.1 < (0 : Int)) then (some ((-1 : Int), ())) else some (r2.1, ())
noncomputable def raw (k : Nat) (a1 : Arg) : Option Out := p a1
theorem p_eq (k : Nat) (a1 : Arg) : bodyK E k Go.Proofs.Try.f82 ps rs [] [] a1 = p a1 := by kernel_rfl
theorem raw_eq (k : Nat) (a1 : Arg) : bodyK E k Go.Proofs.Try.f82 ps rs [] [] a1 = raw k a1 := (p_eq k a1).trans (by rfl)
theorem ent : EnterOk Go.Proofs.Try.prog 82 sig.cap := ⟨Go.Proofs.Try.f82, Go.Proofs.Try.func82, by kernel_rfl, by kernel_rfl, by kernel_rfl⟩
theorem env : EnvOk Go.Proofs.Try.prog E := env_ok (tl := [(29, (.slc tTx)), (125, tTxsResult)]) (gl := [(177, laws_heldTxS.sig)]) rfl rfl (by kernel_rfl) (by kernel_rfl) (fn_cons laws_heldTxS.snd laws_heldTxS.ent (fn_nil _))
theorem chk : funOk Go.Proofs.Try.prog E Go.Proofs.Try.f82 ps rs [] = true := by kernel_rfl
theorem snd : Sound Go.Proofs.Try.prog 82 sig := sound_of_body env Go.Proofs.Try.func82 rfl (es := []) (fr := []) chk (fun _ _ h => lift_some h)
end laws_heldTxsResult
namespace laws_FnExactNoteChange
/-! loop example g00408 laws FnExactNoteChange -/
abbrev Arg : Type := (List Tx) × Int × Change × Unit
abbrev Out : Type := Bool × Unit
noncomputable def ps : List (PM × Ty) := [(.ro, (.slc tTx)), (.ro, i64), (.ro, tChange)]
noncomputable def rs : List (Ty × Md) := [(.bool, (roMd .bool))]
noncomputable def E : Env := { TI := lookN [(121, tChange), (125, tTxsResult)], G := lookN [(72, laws_szTxS.sig), (73, laws_szChange.sig), (74, spec_NoteChange.sig), (75, laws_toTxS.sig), (76, laws_toChange.sig), (77, impl_NoteChange.sig), (78, laws_eqTxsResult.sig), (79, laws_eqTxS.sig), (80, laws_markTxS.sig), (81, laws_markTxsResult.sig), (82, laws_heldTxsResult.sig)], fz := [], lv := [], lx := [], lf := [], od := [(8, [0, 2, 3, 1, 4, 5, 6, 7]), (27, [0, 2, 3, 1, 4, 5, 6, 7])], ar := [(8, [3]), (27, [3])], bx := [(8, [5])], pd := [(8, [6]), (27, [6])] }
noncomputable def sem (a : Arg) : Option Out := lift fun k => bodyK E k Go.Proofs.Try.f11 ps rs [] [] a
noncomputable def sig : Sig := { ps := ps, rs := rs, F := fun a => sem a }
noncomputable def C : Code := bodyOf Go.Proofs.Try.f11
noncomputable def fin : St → Option Out := outK ps rs [] (Func.results Go.Proofs.Try.f11).toList (mvs [])
noncomputable def K0 : Ex → St → Option Out := endK fin
noncomputable def p (a1 : Arg) : Option Out := (laws_szTxS.sem (a1.1, (1048576 : Int), ())).bind fun r2 => bif decide (r2.1 < (0 : Int)) then (some (true, ())) else (laws_szChange.sem (a1.2.2.1, r2.1, ())).bind fun r3 => bif decide (r3.1 < (0 : Int)) then (some (true, ())) else (laws_toTxS.sem (a1.1, ())).bind fun r4 => (laws_toChange.sem (a1.2.2.1, ())).bind fun r5 => (spec_NoteChange.sem (r4.1, a1.2.1, r5.1, ())).bind fun r6 => (laws_toTxS.sem (a1.1, ())).bind fun r7 => (laws_toChange.sem (a1.2.2.1, ())).bind fun r8 => (impl_NoteChange.sem (r7.1, a1.2.1, r8.1, ())).bind fun r9 => (laws_eqTxsResult.sem (r9.1, r6.1, ())).bind fun r10 => bif !r10.1 then (some (false, ())) else (laws_toTxS.sem (a1.1, ())).bind fun r11 => (laws_eqTxS.sem (r7.1, r11.1, ())).bind fun r12 => bif !r12.1 then (some (false, ())) else (laws_markTxS.sem (r7.1, (1 : Int), ())).bind fun r13 => bif decide (r13.1 < (0 : Int)) then (some (false, ())) else (laws_eqTxsResult.sem (r9.1, r6.1, ())).bind fun r14 => bif !r14.1 then (some (false, ())) else (laws_markTxsResult.sem (r9.1, (1 : Int), ())).bind fun r15 => (laws_heldTxsResult.sem (r15.2.1, (1 : Int), ())).bind fun r16 => bif decide (r16.1 < (0 : Int)) then (some (false, ())) else bif !decide (r16.1 = r15.1) then (some (false, ())) else (laws_toTxS.sem (a1.1, ())).bind fun r17 => (laws_toChange.sem (a1.2.2.1, ())).bind fun r18 => (impl_NoteChange.sem (r17.1, a1.2.1, r18.1, ())).bind fun r19 => (laws_eqTxsResult.sem (r19.1, r6.1, ())).bind fun r20 => bif !r20.1 then (some (false, ())) else (laws_heldTxsResult.sem (r15.2.1, (1 : Int), ())).bind fun r21 => bif decide (r21.1 < (0 : Int)) then (some (false, ())) else bif !decide (r21.1 = r15.1) then (some (false, ())) else some (true, ())
noncomputable def raw (k : Nat) (a1 : Arg) : Option Out := p a1
theorem p_eq (k : Nat) (a1 : Arg) : bodyK E k Go.Proofs.Try.f11 ps rs [] [] a1 = p a1 := by kernel_rfl
theorem raw_eq (k : Nat) (a1 : Arg) : bodyK E k Go.Proofs.Try.f11 ps rs [] [] a1 = raw k a1 := (p_eq k a1).trans (by rfl)
theorem ent : EnterOk Go.Proofs.Try.prog 11 sig.cap := ⟨Go.Proofs.Try.f11, Go.Proofs.Try.func11, by kernel_rfl, by kernel_rfl, by kernel_rfl⟩
theorem env : EnvOk Go.Proofs.Try.prog E := env_ok (tl := [(121, tChange), (125, tTxsResult)]) (gl := [(72, laws_szTxS.sig), (73, laws_szChange.sig), (74, spec_NoteChange.sig), (75, laws_toTxS.sig), (76, laws_toChange.sig), (77, impl_NoteChange.sig), (78, laws_eqTxsResult.sig), (79, laws_eqTxS.sig), (80, laws_markTxS.sig), (81, laws_markTxsResult.sig), (82, laws_heldTxsResult.sig)]) rfl rfl (by kernel_rfl) (by kernel_rfl) (fn_cons laws_szTxS.snd laws_szTxS.ent (fn_cons laws_szChange.snd laws_szChange.ent (fn_cons spec_NoteChange.snd spec_NoteChange.ent (fn_cons laws_toTxS.snd laws_toTxS.ent (fn_cons laws_toChange.snd laws_toChange.ent (fn_cons impl_NoteChange.snd impl_NoteChange.ent (fn_cons laws_eqTxsResult.snd laws_eqTxsResult.ent (fn_cons laws_eqTxS.snd laws_eqTxS.ent (fn_cons laws_markTxS.snd laws_markTxS.ent (fn_cons laws_markTxsResult.snd laws_markTxsResult.ent (fn_cons laws_heldTxsResult.snd laws_heldTxsResult.ent (fn_nil _))))))))))))
theorem chk : funOk Go.Proofs.Try.prog E Go.Proofs.Try.f11 ps rs [] = true := by kernel_rfl
theorem snd : Sound Go.Proofs.Try.prog 11 sig := sound_of_body env Go.Proofs.Try.func11 rfl (es := []) (fr := []) chk (fun _ _ h => lift_some h)
end laws_FnExactNoteChange
end OT
