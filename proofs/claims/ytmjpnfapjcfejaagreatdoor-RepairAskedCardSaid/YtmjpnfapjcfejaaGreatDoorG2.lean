/- The verification conditions of functions, printed by program, each tied to the calculus by the kernel. -/
import Derived.Test.YtmjpnfapjcfejaaGreatDoorVg
namespace Go.Proofs.YtmjpnfapjcfejaaGreatDoor
open Go VC
set_option maxRecDepth 100000
set_option linter.unusedVariables false
/-! 173 cmp.Or[int] -/
def f173_h : HT := .seq none (.region (.plain [])) (.seq none (.region (.plain [])) (.seq none (.seq none (.region (.plain [])) (.block (.loop [(8, .int .i64)] (.seq none (.region (.plain [])) (.seq none (.cond (.leaf) (.leaf)) (.seq none (.block (.seq none (.region (.plain [])) (.seq none (.region (.plain [])) (.cond (.seq none (.region (.plain [])) (.leaf)) (.leaf))))) (.region (.plain [])))))))) (.seq none (.region (.plain [])) (.leaf))))
def f173_vc (vals_0 : Value) (w : World) (R : Ending → World → Prop) : Prop :=
  ∃ (a_v1 : Option Addr) (n_v2 c_v3 : Nat), vals_0 = Value.slice a_v1 n_v2 c_v3 ∧ ∃ (I_v4 : Int → World → Prop) (μ_v5 : Int → World → Nat), I_v4 0 (w) ∧ ∀ (j_v6 : Nat → Value) (t_v7 : Int) (w_v8 : World), I_v4 t_v7 w_v8 → condP (decide (t_v7 < ((n_v2 : Int) : Int))) (∃ (a_v9 : Addr) (n_v10 c_v11 : Nat), vals_0 = Value.slice (some a_v9) n_v10 c_v11 ∧ ((0 : Int) ≤ t_v7 ∧ t_v7 < (n_v10 : Int)) ∧ ∃ t_v12 : Int, (w_v8).cell? (a_v9.add (Int.toNat t_v7 * 1)) = some (Value.int .i64 t_v12) ∧ condP (!decide (t_v12 = (0 : Int))) (R (.returned (Value.int .i64 t_v12)) (w_v8)) (inR (t_v7 + 1) ∧ (I_v4 (t_v7 + 1) (w_v8) ∧ μ_v5 (t_v7 + 1) (w_v8) < μ_v5 t_v7 w_v8))) (R (.returned (Value.int .i64 0)) (w_v8))
theorem f173_eq (vals_0 : Value) (w : World) (R : Ending → World → Prop) : vcCalls callOK Tryz.prog Tryz.f173 f173_h #[vals_0] w R = f173_vc vals_0 w R := by kernel_rfl
theorem f173_ok : bodyOk Tryz.prog Tryz.f173 f173_h = true := by kernel_rfl
theorem f173_calls (vals_0 : Value) {w : World} {R : Ending → World → Prop} (h : f173_vc vals_0 w R) : Calls Tryz.prog 173 #[vals_0] w R :=
  calls_of_eq callAll mixed Tryz.func173 f173_ok (f173_eq vals_0 w R) h

end Go.Proofs.YtmjpnfapjcfejaaGreatDoor
