/- The verification conditions of functions, printed by program, each tied to the calculus by the kernel. -/
import Derived.Test.YtmpjanpmkmlloaaDoorVg
namespace Go.Proofs.YtmpjanpmkmlloaaDoor
open Go VC
set_option maxRecDepth 100000
set_option linter.unusedVariables false
/-! 118 math/bits.TrailingZeros64 -/
def f118_h : HT := .seq none (.region (.plain [])) (.seq none (.seq none (.region (.plain [])) (.cond (.seq none (.region (.plain [])) (.leaf)) (.leaf))) (.seq none (.region (.plain [])) (.leaf)))
def f118_vc (x_0 : Int) (w : World) (R : Ending → World → Prop) : Prop :=
  condP (decide (x_0 = (0 : Int))) (R (.returned (Value.int .i64 64)) (w)) ((0 : Int) ≤ 58 ∧ ((0 : Int) ≤ (iShr .u64 (IntKind.wrap .u64 ((iAnd .u64 x_0 (IntKind.wrap .u64 (0 - x_0))) * 285870213051353865)) 58) ∧ (iShr .u64 (IntKind.wrap .u64 ((iAnd .u64 x_0 (IntKind.wrap .u64 (0 - x_0))) * 285870213051353865)) 58) < ((64 : Nat) : Int)) ∧ ∃ t_v1 : Int, (w).cell? (Addr.add ⟨1, 0, none⟩ (Int.toNat (iShr .u64 (IntKind.wrap .u64 ((iAnd .u64 x_0 (IntKind.wrap .u64 (0 - x_0))) * 285870213051353865)) 58) * 1)) = some (Value.int .u8 t_v1) ∧ R (.returned (Value.int .i64 (IntKind.wrap .i64 t_v1))) (w))
theorem f118_eq (x_0 : Int) (w : World) (R : Ending → World → Prop) : vcCalls callOK Tryd.prog Tryd.f118 f118_h #[(Value.int .u64 x_0)] w R = f118_vc x_0 w R := by kernel_rfl
theorem f118_ok : bodyOk Tryd.prog Tryd.f118 f118_h = true := by kernel_rfl
theorem f118_calls (x_0 : Int) {w : World} {R : Ending → World → Prop} (h : f118_vc x_0 w R) : Calls Tryd.prog 118 #[(Value.int .u64 x_0)] w R :=
  calls_of_eq callAll mixed Tryd.func118 f118_ok (f118_eq x_0 w R) h

end Go.Proofs.YtmpjanpmkmlloaaDoor
