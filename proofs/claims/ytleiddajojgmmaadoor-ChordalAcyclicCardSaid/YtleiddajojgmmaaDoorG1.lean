/- The verification conditions of functions, printed by program, each tied to the calculus by the kernel. -/
import Derived.Test.YtleiddajojgmmaaDoorVg
namespace Go.Proofs.YtleiddajojgmmaaDoor
open Go VC
set_option maxRecDepth 100000
set_option linter.unusedVariables false
/-! 64 (cubeb/match.Atom).valid lit 1 -/
def f64_h : HT := .seq none (.region (.plain [])) (.seq none (.region (.plain [2])) (.leaf))
def f64_vc (x_0 : Int) (w : World) (R : Ending → World → Prop) : Prop :=
  condP (decide (x_0 < ((-9) : Int))) (R (.returned (Value.bool true)) (w)) (R (.returned (Value.bool (decide (8 ≤ (x_0 : Int))))) (w))
theorem f64_eq (x_0 : Int) (w : World) (R : Ending → World → Prop) : vcCalls callOK Tryd.prog Tryd.f64 f64_h #[(Value.int .i64 x_0)] w R = f64_vc x_0 w R := by kernel_rfl
theorem f64_ok : bodyOk Tryd.prog Tryd.f64 f64_h = true := by kernel_rfl
theorem f64_calls (x_0 : Int) {w : World} {R : Ending → World → Prop} (h : f64_vc x_0 w R) : Calls Tryd.prog 64 #[(Value.int .i64 x_0)] w R :=
  calls_of_eq callAll mixed Tryd.func64 f64_ok (f64_eq x_0 w R) h

/-! 65 math/bits.Mul -/
def f65_h : HT := .seq none (.region (.plain [])) (.seq none (.cond (.seq none (.region (.plain [])) (.seq none (.region (.plain [])) (.leaf))) (.leaf)) (.seq none (.region (.plain [])) (.seq none (.region (.plain [])) (.leaf))))
def f65_vc (x_0 : Int) (y_1 : Int) (w : World) (R : Ending → World → Prop) : Prop :=
  Calls Tryd.prog 77 #[(Value.int .u64 x_0), (Value.int .u64 y_1)] (w) fun e_v2 w_v1 => ∃ t_v3 : Int, ∃ t_v4 : Int, e_v2 = .returned (Value.tuple #[(Value.int .u64 t_v3), (Value.int .u64 t_v4)]) ∧ R (.returned (.tuple #[(Value.int .u64 t_v3), (Value.int .u64 t_v4)])) (w_v1)
theorem f65_eq (x_0 : Int) (y_1 : Int) (w : World) (R : Ending → World → Prop) : vcCalls callOK Tryd.prog Tryd.f65 f65_h #[(Value.int .u64 x_0), (Value.int .u64 y_1)] w R = f65_vc x_0 y_1 w R := by kernel_rfl
theorem f65_ok : bodyOk Tryd.prog Tryd.f65 f65_h = true := by kernel_rfl
theorem f65_calls (x_0 : Int) (y_1 : Int) {w : World} {R : Ending → World → Prop} (h : f65_vc x_0 y_1 w R) : Calls Tryd.prog 65 #[(Value.int .u64 x_0), (Value.int .u64 y_1)] w R :=
  calls_of_eq callAll mixed Tryd.func65 f65_ok (f65_eq x_0 y_1 w R) h

/-! 67 math/bits.OnesCount64 -/
def f67_h : HT := .seq none (.region (.plain [])) (.seq none (.region (.plain [])) (.seq none (.region (.plain [])) (.seq none (.region (.plain [])) (.seq none (.region (.plain [])) (.seq none (.region (.plain [])) (.seq none (.region (.plain [])) (.seq none (.region (.plain [])) (.leaf))))))))
def f67_vc (x_0 : Int) (w : World) (R : Ending → World → Prop) : Prop :=
  (0 : Int) ≤ 1 ∧ (0 : Int) ≤ 2 ∧ (0 : Int) ≤ 4 ∧ (0 : Int) ≤ 8 ∧ (0 : Int) ≤ 16 ∧ (0 : Int) ≤ 32 ∧ R (.returned (Value.int .i64 (iAnd .i64 (IntKind.wrap .i64 (IntKind.wrap .u64 ((IntKind.wrap .u64 ((IntKind.wrap .u64 ((iAnd .u64 (IntKind.wrap .u64 ((iShr .u64 (IntKind.wrap .u64 ((iAnd .u64 (iShr .u64 (IntKind.wrap .u64 ((iAnd .u64 (iShr .u64 x_0 1) 6148914691236517205) + (iAnd .u64 x_0 6148914691236517205))) 2) 3689348814741910323) + (iAnd .u64 (IntKind.wrap .u64 ((iAnd .u64 (iShr .u64 x_0 1) 6148914691236517205) + (iAnd .u64 x_0 6148914691236517205))) 3689348814741910323))) 4) + (IntKind.wrap .u64 ((iAnd .u64 (iShr .u64 (IntKind.wrap .u64 ((iAnd .u64 (iShr .u64 x_0 1) 6148914691236517205) + (iAnd .u64 x_0 6148914691236517205))) 2) 3689348814741910323) + (iAnd .u64 (IntKind.wrap .u64 ((iAnd .u64 (iShr .u64 x_0 1) 6148914691236517205) + (iAnd .u64 x_0 6148914691236517205))) 3689348814741910323))))) 1085102592571150095) + (iShr .u64 (iAnd .u64 (IntKind.wrap .u64 ((iShr .u64 (IntKind.wrap .u64 ((iAnd .u64 (iShr .u64 (IntKind.wrap .u64 ((iAnd .u64 (iShr .u64 x_0 1) 6148914691236517205) + (iAnd .u64 x_0 6148914691236517205))) 2) 3689348814741910323) + (iAnd .u64 (IntKind.wrap .u64 ((iAnd .u64 (iShr .u64 x_0 1) 6148914691236517205) + (iAnd .u64 x_0 6148914691236517205))) 3689348814741910323))) 4) + (IntKind.wrap .u64 ((iAnd .u64 (iShr .u64 (IntKind.wrap .u64 ((iAnd .u64 (iShr .u64 x_0 1) 6148914691236517205) + (iAnd .u64 x_0 6148914691236517205))) 2) 3689348814741910323) + (iAnd .u64 (IntKind.wrap .u64 ((iAnd .u64 (iShr .u64 x_0 1) 6148914691236517205) + (iAnd .u64 x_0 6148914691236517205))) 3689348814741910323))))) 1085102592571150095) 8))) + (iShr .u64 (IntKind.wrap .u64 ((iAnd .u64 (IntKind.wrap .u64 ((iShr .u64 (IntKind.wrap .u64 ((iAnd .u64 (iShr .u64 (IntKind.wrap .u64 ((iAnd .u64 (iShr .u64 x_0 1) 6148914691236517205) + (iAnd .u64 x_0 6148914691236517205))) 2) 3689348814741910323) + (iAnd .u64 (IntKind.wrap .u64 ((iAnd .u64 (iShr .u64 x_0 1) 6148914691236517205) + (iAnd .u64 x_0 6148914691236517205))) 3689348814741910323))) 4) + (IntKind.wrap .u64 ((iAnd .u64 (iShr .u64 (IntKind.wrap .u64 ((iAnd .u64 (iShr .u64 x_0 1) 6148914691236517205) + (iAnd .u64 x_0 6148914691236517205))) 2) 3689348814741910323) + (iAnd .u64 (IntKind.wrap .u64 ((iAnd .u64 (iShr .u64 x_0 1) 6148914691236517205) + (iAnd .u64 x_0 6148914691236517205))) 3689348814741910323))))) 1085102592571150095) + (iShr .u64 (iAnd .u64 (IntKind.wrap .u64 ((iShr .u64 (IntKind.wrap .u64 ((iAnd .u64 (iShr .u64 (IntKind.wrap .u64 ((iAnd .u64 (iShr .u64 x_0 1) 6148914691236517205) + (iAnd .u64 x_0 6148914691236517205))) 2) 3689348814741910323) + (iAnd .u64 (IntKind.wrap .u64 ((iAnd .u64 (iShr .u64 x_0 1) 6148914691236517205) + (iAnd .u64 x_0 6148914691236517205))) 3689348814741910323))) 4) + (IntKind.wrap .u64 ((iAnd .u64 (iShr .u64 (IntKind.wrap .u64 ((iAnd .u64 (iShr .u64 x_0 1) 6148914691236517205) + (iAnd .u64 x_0 6148914691236517205))) 2) 3689348814741910323) + (iAnd .u64 (IntKind.wrap .u64 ((iAnd .u64 (iShr .u64 x_0 1) 6148914691236517205) + (iAnd .u64 x_0 6148914691236517205))) 3689348814741910323))))) 1085102592571150095) 8))) 16))) + (iShr .u64 (IntKind.wrap .u64 ((IntKind.wrap .u64 ((iAnd .u64 (IntKind.wrap .u64 ((iShr .u64 (IntKind.wrap .u64 ((iAnd .u64 (iShr .u64 (IntKind.wrap .u64 ((iAnd .u64 (iShr .u64 x_0 1) 6148914691236517205) + (iAnd .u64 x_0 6148914691236517205))) 2) 3689348814741910323) + (iAnd .u64 (IntKind.wrap .u64 ((iAnd .u64 (iShr .u64 x_0 1) 6148914691236517205) + (iAnd .u64 x_0 6148914691236517205))) 3689348814741910323))) 4) + (IntKind.wrap .u64 ((iAnd .u64 (iShr .u64 (IntKind.wrap .u64 ((iAnd .u64 (iShr .u64 x_0 1) 6148914691236517205) + (iAnd .u64 x_0 6148914691236517205))) 2) 3689348814741910323) + (iAnd .u64 (IntKind.wrap .u64 ((iAnd .u64 (iShr .u64 x_0 1) 6148914691236517205) + (iAnd .u64 x_0 6148914691236517205))) 3689348814741910323))))) 1085102592571150095) + (iShr .u64 (iAnd .u64 (IntKind.wrap .u64 ((iShr .u64 (IntKind.wrap .u64 ((iAnd .u64 (iShr .u64 (IntKind.wrap .u64 ((iAnd .u64 (iShr .u64 x_0 1) 6148914691236517205) + (iAnd .u64 x_0 6148914691236517205))) 2) 3689348814741910323) + (iAnd .u64 (IntKind.wrap .u64 ((iAnd .u64 (iShr .u64 x_0 1) 6148914691236517205) + (iAnd .u64 x_0 6148914691236517205))) 3689348814741910323))) 4) + (IntKind.wrap .u64 ((iAnd .u64 (iShr .u64 (IntKind.wrap .u64 ((iAnd .u64 (iShr .u64 x_0 1) 6148914691236517205) + (iAnd .u64 x_0 6148914691236517205))) 2) 3689348814741910323) + (iAnd .u64 (IntKind.wrap .u64 ((iAnd .u64 (iShr .u64 x_0 1) 6148914691236517205) + (iAnd .u64 x_0 6148914691236517205))) 3689348814741910323))))) 1085102592571150095) 8))) + (iShr .u64 (IntKind.wrap .u64 ((iAnd .u64 (IntKind.wrap .u64 ((iShr .u64 (IntKind.wrap .u64 ((iAnd .u64 (iShr .u64 (IntKind.wrap .u64 ((iAnd .u64 (iShr .u64 x_0 1) 6148914691236517205) + (iAnd .u64 x_0 6148914691236517205))) 2) 3689348814741910323) + (iAnd .u64 (IntKind.wrap .u64 ((iAnd .u64 (iShr .u64 x_0 1) 6148914691236517205) + (iAnd .u64 x_0 6148914691236517205))) 3689348814741910323))) 4) + (IntKind.wrap .u64 ((iAnd .u64 (iShr .u64 (IntKind.wrap .u64 ((iAnd .u64 (iShr .u64 x_0 1) 6148914691236517205) + (iAnd .u64 x_0 6148914691236517205))) 2) 3689348814741910323) + (iAnd .u64 (IntKind.wrap .u64 ((iAnd .u64 (iShr .u64 x_0 1) 6148914691236517205) + (iAnd .u64 x_0 6148914691236517205))) 3689348814741910323))))) 1085102592571150095) + (iShr .u64 (iAnd .u64 (IntKind.wrap .u64 ((iShr .u64 (IntKind.wrap .u64 ((iAnd .u64 (iShr .u64 (IntKind.wrap .u64 ((iAnd .u64 (iShr .u64 x_0 1) 6148914691236517205) + (iAnd .u64 x_0 6148914691236517205))) 2) 3689348814741910323) + (iAnd .u64 (IntKind.wrap .u64 ((iAnd .u64 (iShr .u64 x_0 1) 6148914691236517205) + (iAnd .u64 x_0 6148914691236517205))) 3689348814741910323))) 4) + (IntKind.wrap .u64 ((iAnd .u64 (iShr .u64 (IntKind.wrap .u64 ((iAnd .u64 (iShr .u64 x_0 1) 6148914691236517205) + (iAnd .u64 x_0 6148914691236517205))) 2) 3689348814741910323) + (iAnd .u64 (IntKind.wrap .u64 ((iAnd .u64 (iShr .u64 x_0 1) 6148914691236517205) + (iAnd .u64 x_0 6148914691236517205))) 3689348814741910323))))) 1085102592571150095) 8))) 16))) 32)))) 127))) (w)
theorem f67_eq (x_0 : Int) (w : World) (R : Ending → World → Prop) : vcCalls callOK Tryd.prog Tryd.f67 f67_h #[(Value.int .u64 x_0)] w R = f67_vc x_0 w R := by kernel_rfl
theorem f67_ok : bodyOk Tryd.prog Tryd.f67 f67_h = true := by kernel_rfl
theorem f67_calls (x_0 : Int) {w : World} {R : Ending → World → Prop} (h : f67_vc x_0 w R) : Calls Tryd.prog 67 #[(Value.int .u64 x_0)] w R :=
  calls_of_eq callAll mixed Tryd.func67 f67_ok (f67_eq x_0 w R) h

/-! 68 math/bits.TrailingZeros -/
def f68_h : HT := .seq none (.region (.plain [])) (.seq none (.cond (.seq none (.region (.plain [])) (.leaf)) (.leaf)) (.seq none (.region (.plain [])) (.leaf)))
def f68_vc (x_0 : Int) (w : World) (R : Ending → World → Prop) : Prop :=
  Calls Tryd.prog 79 #[(Value.int .u64 x_0)] (w) fun e_v2 w_v1 => ∃ t_v3 : Int, e_v2 = .returned (Value.int .i64 t_v3) ∧ R (.returned (Value.int .i64 t_v3)) (w_v1)
theorem f68_eq (x_0 : Int) (w : World) (R : Ending → World → Prop) : vcCalls callOK Tryd.prog Tryd.f68 f68_h #[(Value.int .u64 x_0)] w R = f68_vc x_0 w R := by kernel_rfl
theorem f68_ok : bodyOk Tryd.prog Tryd.f68 f68_h = true := by kernel_rfl
theorem f68_calls (x_0 : Int) {w : World} {R : Ending → World → Prop} (h : f68_vc x_0 w R) : Calls Tryd.prog 68 #[(Value.int .u64 x_0)] w R :=
  calls_of_eq callAll mixed Tryd.func68 f68_ok (f68_eq x_0 w R) h

/-! 69 (cubeb/chordal.Graph).clique lit 1 -/
def f69_h : HT := .seq none (.region (.plain [])) (.seq none (.region (.q false [])) (.leaf))
def f69_vc (i_0 : Int) (q1 : Addr) (q2 : Addr) (w : World) (R : Ending → World → Prop) : Prop :=
  ∃ t_v1 : Int, (w).cell? q1 = some (Value.int .i64 t_v1) ∧ ∃ t_v2 : Value, (w).cell? q2 = some t_v2 ∧ ∃ (a_v3 : Addr) (n_v4 c_v5 : Nat), t_v2 = Value.slice (some a_v3) n_v4 c_v5 ∧ ((0 : Int) ≤ i_0 ∧ i_0 < (n_v4 : Int)) ∧ ∃ t_v6 : Int, (w).cell? (a_v3.add (Int.toNat i_0 * 1)) = some (Value.int .i64 t_v6) ∧ (0 : Int) ≤ i_0 ∧ ∀ m_v7 : DM (w), R (.returned (Value.bool (!decide ((iAndNot .i64 (iAndNot .i64 t_v1 t_v6) (iShl .i64 1 i_0)) = (0 : Int))))) (dr (w) m_v7.1)
theorem f69_eq (i_0 : Int) (q1 : Addr) (q2 : Addr) (w : World) (R : Ending → World → Prop) : vcCalls callOK Tryd.prog Tryd.f69 f69_h #[(Value.int .i64 i_0), (Value.pointer (some q1)), (Value.pointer (some q2))] w R = f69_vc i_0 q1 q2 w R := by kernel_rfl
theorem f69_ok : bodyOk Tryd.prog Tryd.f69 f69_h = true := by kernel_rfl
theorem f69_calls (i_0 : Int) (q1 : Addr) (q2 : Addr) {w : World} {R : Ending → World → Prop} (h : f69_vc i_0 q1 q2 w R) : Calls Tryd.prog 69 #[(Value.int .i64 i_0), (Value.pointer (some q1)), (Value.pointer (some q2))] w R :=
  calls_of_eq callAll mixed Tryd.func69 f69_ok (f69_eq i_0 q1 q2 w R) h

/-! 75 cmp.isNaN[int] -/
def f75_h : HT := .seq none (.region (.plain [])) (.seq none (.region (.plain [])) (.leaf))
def f75_vc (x_0 : Int) (w : World) (R : Ending → World → Prop) : Prop :=
  R (.returned (Value.bool (!decide (x_0 = (x_0 : Int))))) (w)
theorem f75_eq (x_0 : Int) (w : World) (R : Ending → World → Prop) : vcCalls callOK Tryd.prog Tryd.f75 f75_h #[(Value.int .i64 x_0)] w R = f75_vc x_0 w R := by kernel_rfl
theorem f75_ok : bodyOk Tryd.prog Tryd.f75 f75_h = true := by kernel_rfl
theorem f75_calls (x_0 : Int) {w : World} {R : Ending → World → Prop} (h : f75_vc x_0 w R) : Calls Tryd.prog 75 #[(Value.int .i64 x_0)] w R :=
  calls_of_eq callAll mixed Tryd.func75 f75_ok (f75_eq x_0 w R) h

/-! 76 math/bits.Mul32 -/
def f76_h : HT := .seq none (.region (.plain [])) (.seq none (.region (.plain [])) (.seq none (.region (.plain [])) (.leaf)))
def f76_vc (x_0 : Int) (y_1 : Int) (w : World) (R : Ending → World → Prop) : Prop :=
  (0 : Int) ≤ 32 ∧ R (.returned (.tuple #[(Value.int .u32 (IntKind.wrap .u32 (iShr .u64 (IntKind.wrap .u64 ((IntKind.wrap .u64 x_0) * (IntKind.wrap .u64 y_1))) 32))), (Value.int .u32 (IntKind.wrap .u32 (IntKind.wrap .u64 ((IntKind.wrap .u64 x_0) * (IntKind.wrap .u64 y_1)))))])) (w)
theorem f76_eq (x_0 : Int) (y_1 : Int) (w : World) (R : Ending → World → Prop) : vcCalls callOK Tryd.prog Tryd.f76 f76_h #[(Value.int .u32 x_0), (Value.int .u32 y_1)] w R = f76_vc x_0 y_1 w R := by kernel_rfl
theorem f76_ok : bodyOk Tryd.prog Tryd.f76 f76_h = true := by kernel_rfl
theorem f76_calls (x_0 : Int) (y_1 : Int) {w : World} {R : Ending → World → Prop} (h : f76_vc x_0 y_1 w R) : Calls Tryd.prog 76 #[(Value.int .u32 x_0), (Value.int .u32 y_1)] w R :=
  calls_of_eq callAll mixed Tryd.func76 f76_ok (f76_eq x_0 y_1 w R) h

/-! 77 math/bits.Mul64 -/
def f77_h : HT := .seq none (.region (.plain [])) (.seq none (.region (.plain [])) (.seq none (.region (.plain [])) (.seq none (.region (.plain [])) (.seq none (.region (.plain [])) (.seq none (.region (.plain [])) (.seq none (.region (.plain [])) (.seq none (.region (.plain [])) (.seq none (.region (.plain [])) (.seq none (.region (.plain [])) (.seq none (.region (.plain [])) (.seq none (.region (.plain [])) (.leaf))))))))))))
def f77_vc (x_0 : Int) (y_1 : Int) (w : World) (R : Ending → World → Prop) : Prop :=
  (0 : Int) ≤ 32 ∧ (0 : Int) ≤ 32 ∧ (0 : Int) ≤ 32 ∧ (0 : Int) ≤ 32 ∧ (0 : Int) ≤ 32 ∧ R (.returned (.tuple #[(Value.int .u64 (IntKind.wrap .u64 ((IntKind.wrap .u64 ((IntKind.wrap .u64 ((iShr .u64 x_0 32) * (iShr .u64 y_1 32))) + (iShr .u64 (IntKind.wrap .u64 ((IntKind.wrap .u64 ((iShr .u64 x_0 32) * (iAnd .u64 y_1 4294967295))) + (iShr .u64 (IntKind.wrap .u64 ((iAnd .u64 x_0 4294967295) * (iAnd .u64 y_1 4294967295))) 32))) 32))) + (iShr .u64 (IntKind.wrap .u64 ((iAnd .u64 (IntKind.wrap .u64 ((IntKind.wrap .u64 ((iShr .u64 x_0 32) * (iAnd .u64 y_1 4294967295))) + (iShr .u64 (IntKind.wrap .u64 ((iAnd .u64 x_0 4294967295) * (iAnd .u64 y_1 4294967295))) 32))) 4294967295) + (IntKind.wrap .u64 ((iAnd .u64 x_0 4294967295) * (iShr .u64 y_1 32))))) 32)))), (Value.int .u64 (IntKind.wrap .u64 (x_0 * y_1)))])) (w)
theorem f77_eq (x_0 : Int) (y_1 : Int) (w : World) (R : Ending → World → Prop) : vcCalls callOK Tryd.prog Tryd.f77 f77_h #[(Value.int .u64 x_0), (Value.int .u64 y_1)] w R = f77_vc x_0 y_1 w R := by kernel_rfl
theorem f77_ok : bodyOk Tryd.prog Tryd.f77 f77_h = true := by kernel_rfl
theorem f77_calls (x_0 : Int) (y_1 : Int) {w : World} {R : Ending → World → Prop} (h : f77_vc x_0 y_1 w R) : Calls Tryd.prog 77 #[(Value.int .u64 x_0), (Value.int .u64 y_1)] w R :=
  calls_of_eq callAll mixed Tryd.func77 f77_ok (f77_eq x_0 y_1 w R) h

/-! 79 math/bits.TrailingZeros64 -/
def f79_h : HT := .seq none (.region (.plain [])) (.seq none (.seq none (.region (.plain [])) (.cond (.seq none (.region (.plain [])) (.leaf)) (.leaf))) (.seq none (.region (.plain [])) (.leaf)))
def f79_vc (x_0 : Int) (w : World) (R : Ending → World → Prop) : Prop :=
  condP (decide (x_0 = (0 : Int))) (R (.returned (Value.int .i64 64)) (w)) ((0 : Int) ≤ 58 ∧ ((0 : Int) ≤ (iShr .u64 (IntKind.wrap .u64 ((iAnd .u64 x_0 (IntKind.wrap .u64 (0 - x_0))) * 285870213051353865)) 58) ∧ (iShr .u64 (IntKind.wrap .u64 ((iAnd .u64 x_0 (IntKind.wrap .u64 (0 - x_0))) * 285870213051353865)) 58) < ((64 : Nat) : Int)) ∧ ∃ t_v1 : Int, (w).cell? (Addr.add ⟨1, 0, none⟩ (Int.toNat (iShr .u64 (IntKind.wrap .u64 ((iAnd .u64 x_0 (IntKind.wrap .u64 (0 - x_0))) * 285870213051353865)) 58) * 1)) = some (Value.int .u8 t_v1) ∧ R (.returned (Value.int .i64 (IntKind.wrap .i64 t_v1))) (w))
theorem f79_eq (x_0 : Int) (w : World) (R : Ending → World → Prop) : vcCalls callOK Tryd.prog Tryd.f79 f79_h #[(Value.int .u64 x_0)] w R = f79_vc x_0 w R := by kernel_rfl
theorem f79_ok : bodyOk Tryd.prog Tryd.f79 f79_h = true := by kernel_rfl
theorem f79_calls (x_0 : Int) {w : World} {R : Ending → World → Prop} (h : f79_vc x_0 w R) : Calls Tryd.prog 79 #[(Value.int .u64 x_0)] w R :=
  calls_of_eq callAll mixed Tryd.func79 f79_ok (f79_eq x_0 w R) h

end Go.Proofs.YtleiddajojgmmaaDoor
