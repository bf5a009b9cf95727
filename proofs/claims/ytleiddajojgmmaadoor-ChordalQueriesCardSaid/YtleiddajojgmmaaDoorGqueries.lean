/- The verification conditions of functions, printed by program, each tied to the calculus by the kernel. -/
import Derived.Test.YtleiddajojgmmaaDoorVg
namespace Go.Proofs.YtleiddajojgmmaaDoor
open Go VC
set_option maxRecDepth 100000
set_option linter.unusedVariables false
/-! 3 cubeb/cubeblaw06.ChordalQueries -/
def f3_h : HT := .seq none (.region (.plain [])) (.seq none (.region (.plain [])) (.seq none (.region (.plain [])) (.seq none (.region (.plain [3, 8])) (.leaf))))
def f3_vc (q_0 : Value) (w : World) (R : Ending → World → Prop) : Prop :=
  ∃ cs_v2, q_0 = Value.agg cs_v2 ∧ ∀ w_v1, w_v1 = (w).alloc (.cells cs_v2 25) → ∃ cs_v3 : List Value, cs_v3.length = 2 ∧ (∀ j v, cs_v3[j]? = some v → (w_v1).cell? (Addr.add ⟨(w).heap.size, 0, none⟩ j) = some v) ∧ Calls Tryd.prog 6 #[(Value.agg cs_v3.toArray)] (w_v1) fun e_v5 w_v4 => ∃ t_v6 : Value, e_v5 = .returned t_v6 ∧ Calls Tryd.prog 5 #[t_v6] (w_v4) fun e_v8 w_v7 => ∃ t_v9 : Value, ∃ t_v10 : Int, e_v8 = .returned (Value.tuple #[t_v9, (Value.int .i64 t_v10)]) ∧ ∃ cs_v11 : List Value, cs_v11.length = 2 ∧ (∀ j v, cs_v11[j]? = some v → (w_v7).cell? (Addr.add ⟨(w).heap.size, 0, none⟩ j) = some v) ∧ Calls Tryd.prog 7 #[(Value.agg cs_v11.toArray)] (w_v7) fun e_v13 w_v12 => ∃ t_v14 : Value, ∃ t_v15 : Int, e_v13 = .returned (Value.tuple #[t_v14, (Value.int .i64 t_v15)]) ∧ Calls Tryd.prog 8 #[t_v9, t_v14] (w_v12) fun e_v17 w_v16 => ∃ t_v18 : Bool, e_v17 = .returned (Value.bool t_v18) ∧ condP t_v18 (condP (decide (t_v10 = (t_v15 : Int))) (Calls Tryd.prog 9 #[] (w_v16) fun e_v20 w_v19 => ∃ t_v21 : Bool, e_v20 = .returned (Value.bool t_v21) ∧ R (.returned (Value.bool t_v21)) (w_v19)) (R (.returned (Value.bool false)) (w_v16))) (R (.returned (Value.bool false)) (w_v16))
theorem f3_eq (q_0 : Value) (w : World) (R : Ending → World → Prop) : vcCalls callOK Tryd.prog Tryd.f3 f3_h #[q_0] w R = f3_vc q_0 w R := by kernel_rfl
theorem f3_ok : bodyOk Tryd.prog Tryd.f3 f3_h = true := by kernel_rfl
theorem f3_calls (q_0 : Value) {w : World} {R : Ending → World → Prop} (h : f3_vc q_0 w R) : Calls Tryd.prog 3 #[q_0] w R :=
  calls_of_eq callAll mixed Tryd.func3 f3_ok (f3_eq q_0 w R) h

end Go.Proofs.YtleiddajojgmmaaDoor
