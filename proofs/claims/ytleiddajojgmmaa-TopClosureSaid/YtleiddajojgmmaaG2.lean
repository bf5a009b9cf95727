/- The verification conditions of functions, printed by program, each tied to the calculus by the kernel. -/
import Derived.Test.YtleiddajojgmmaaVg
namespace Go.Proofs.Ytleiddajojgmmaa
open Go VC
set_option maxRecDepth 100000
set_option linter.unusedVariables false
/-! 162 cubeb/match.once lit 1 -/
def f162_h : HT := .seq none (.region (.plain [])) (.seq none (.region (.plain [])) (.leaf))
def f162_vc (a_0 : Value) (b_1 : Value) (w : World) (R : Ending → World → Prop) : Prop :=
  ∃ cs_v2, a_0 = Value.agg cs_v2 ∧ ∀ w_v1, w_v1 = (w).alloc (.cells cs_v2 33) → ∃ cs_v4, b_1 = Value.agg cs_v4 ∧ ∀ w_v3, w_v3 = (w_v1).alloc (.cells cs_v4 33) → ∃ cs_v5 : List Value, cs_v5.length = 2 ∧ (∀ j v, cs_v5[j]? = some v → (w_v3).cell? (Addr.add ⟨(w).heap.size, 0, none⟩ j) = some v) ∧ ∃ cs_v6 : List Value, cs_v6.length = 2 ∧ (∀ j v, cs_v6[j]? = some v → (w_v3).cell? (Addr.add ⟨(w_v1).heap.size, 0, none⟩ j) = some v) ∧ Calls Try.prog 160 #[(Value.agg cs_v5.toArray), (Value.agg cs_v6.toArray)] (w_v3) fun e_v8 w_v7 => ∃ t_v9 : Int, e_v8 = .returned (Value.int .i64 t_v9) ∧ R (.returned (Value.bool (decide (t_v9 = (0 : Int))))) (w_v7)
theorem f162_eq (a_0 : Value) (b_1 : Value) (w : World) (R : Ending → World → Prop) : vcCalls callOK Try.prog Try.f162 f162_h #[a_0, b_1] w R = f162_vc a_0 b_1 w R := by kernel_rfl
theorem f162_ok : bodyOk Try.prog Try.f162 f162_h = true := by kernel_rfl
theorem f162_calls (a_0 : Value) (b_1 : Value) {w : World} {R : Ending → World → Prop} (h : f162_vc a_0 b_1 w R) : Calls Try.prog 162 #[a_0, b_1] w R :=
  calls_of_eq callAll mixed Try.func162 f162_ok (f162_eq a_0 b_1 w R) h

/-! 163 (cubeb/match.values).of -/
def f163_h : HT := .seq none (.region (.plain [])) (.seq none (.seq none (.region (.plain [])) (.cond (.seq none (.region (.plain [])) (.leaf)) (.leaf))) (.seq none (.region (.plain [])) (.leaf)))
def f163_vc (v_0 : Value) (x_1 : Int) (w : World) (R : Ending → World → Prop) : Prop :=
  ∃ cs_v2, v_0 = Value.agg cs_v2 ∧ ∀ w_v1, w_v1 = (w).alloc (.cells cs_v2 138) → condP (decide (x_1 < (0 : Int))) (inR (0 - x_1) ∧ R (.returned (Value.int .i64 (0 - x_1))) (w_v1)) (((0 : Int) ≤ x_1 ∧ x_1 < ((8 : Nat) : Int)) ∧ ∃ t_v3 : Int, (w_v1).cell? (Addr.add ⟨(w).heap.size, 0, none⟩ (Int.toNat x_1 * 1)) = some (Value.int .i64 t_v3) ∧ R (.returned (Value.int .i64 t_v3)) (w_v1))
theorem f163_eq (v_0 : Value) (x_1 : Int) (w : World) (R : Ending → World → Prop) : vcCalls callOK Try.prog Try.f163 f163_h #[v_0, (Value.int .i64 x_1)] w R = f163_vc v_0 x_1 w R := by kernel_rfl
theorem f163_ok : bodyOk Try.prog Try.f163 f163_h = true := by kernel_rfl
theorem f163_calls (v_0 : Value) (x_1 : Int) {w : World} {R : Ending → World → Prop} (h : f163_vc v_0 x_1 w R) : Calls Try.prog 163 #[v_0, (Value.int .i64 x_1)] w R :=
  calls_of_eq callAll mixed Try.func163 f163_ok (f163_eq v_0 x_1 w R) h

end Go.Proofs.Ytleiddajojgmmaa
