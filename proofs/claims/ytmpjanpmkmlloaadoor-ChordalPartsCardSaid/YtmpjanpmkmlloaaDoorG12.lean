/- The verification conditions of functions, printed by program, each tied to the calculus by the kernel. -/
import Derived.Test.YtmpjanpmkmlloaaDoorVg
namespace Go.Proofs.YtmpjanpmkmlloaaDoor
open Go VC
set_option maxRecDepth 100000
set_option linter.unusedVariables false
/-! 99 slices.Sort[[]int,int] -/
def f99_h : HT := .seq none (.region (.plain [])) (.region (.plain []))
def f99_vc (x_0 : Value) (w : World) (R : Ending → World → Prop) : Prop :=
  ∃ (a_v1 : Option Addr) (n_v2 c_v3 : Nat), x_0 = Value.slice a_v1 n_v2 c_v3 ∧ Calls Tryd.prog 116 #[(Value.int .u64 (IntKind.wrap .u64 (n_v2 : Int)))] (w) fun e_v5 w_v4 => ∃ t_v6 : Int, e_v5 = .returned (Value.int .i64 t_v6) ∧ Calls Tryd.prog 115 #[x_0, (Value.int .i64 0), (Value.int .i64 (n_v2 : Int)), (Value.int .i64 t_v6)] (w_v4) fun e_v8 w_v7 => e_v8 = .returned (Value.tuple #[]) ∧ R (.returned (.tuple #[])) (w_v7)
theorem f99_eq (x_0 : Value) (w : World) (R : Ending → World → Prop) : vcCalls callOK Tryd.prog Tryd.f99 f99_h #[x_0] w R = f99_vc x_0 w R := by kernel_rfl
theorem f99_ok : bodyOk Tryd.prog Tryd.f99 f99_h = true := by kernel_rfl
theorem f99_calls (x_0 : Value) {w : World} {R : Ending → World → Prop} (h : f99_vc x_0 w R) : Calls Tryd.prog 99 #[x_0] w R :=
  calls_of_eq callAll mixed Tryd.func99 f99_ok (f99_eq x_0 w R) h

/-! 100 cubeb/cubebref06.Free -/
def f100_h : HT := .seq none (.region (.plain [])) (.seq none (.seq none (.region (.plain [])) (.block (.loop [(8, .int .i64)] (.seq none (.region (.plain [])) (.seq none (.cond (.leaf) (.leaf)) (.seq none (.block (.seq none (.region (.plain [])) (.seq none (.region (.plain [5])) (.cond (.seq none (.region (.plain [])) (.leaf)) (.leaf))))) (.region (.plain [])))))))) (.seq none (.region (.plain [])) (.leaf)))
def f100_vc (g_0 : Value) (set_1 : Int) (w : World) (R : Ending → World → Prop) : Prop :=
  ∃ (a_v1 : Option Addr) (n_v2 c_v3 : Nat), g_0 = Value.slice a_v1 n_v2 c_v3 ∧ ∃ (I_v4 : Int → World → Prop) (μ_v5 : Int → World → Nat), I_v4 0 (w) ∧ ∀ (j_v6 : Nat → Value) (t_v7 : Int) (w_v8 : World), I_v4 t_v7 w_v8 → condP (decide (t_v7 < ((n_v2 : Int) : Int))) ((0 : Int) ≤ t_v7 ∧ condP (decide ((iAnd .i64 (iShr .i64 set_1 t_v7) 1) = (1 : Int))) (∃ (a_v9 : Addr) (n_v10 c_v11 : Nat), g_0 = Value.slice (some a_v9) n_v10 c_v11 ∧ ((0 : Int) ≤ t_v7 ∧ t_v7 < (n_v10 : Int)) ∧ ∃ t_v12 : Int, (w_v8).cell? (a_v9.add (Int.toNat t_v7 * 1)) = some (Value.int .i64 t_v12) ∧ condP (!decide ((iAnd .i64 set_1 t_v12) = (0 : Int))) (R (.returned (Value.bool false)) (w_v8)) (inR (t_v7 + 1) ∧ (I_v4 (t_v7 + 1) (w_v8) ∧ μ_v5 (t_v7 + 1) (w_v8) < μ_v5 t_v7 w_v8))) (inR (t_v7 + 1) ∧ (I_v4 (t_v7 + 1) (w_v8) ∧ μ_v5 (t_v7 + 1) (w_v8) < μ_v5 t_v7 w_v8))) (R (.returned (Value.bool true)) (w_v8))
theorem f100_eq (g_0 : Value) (set_1 : Int) (w : World) (R : Ending → World → Prop) : vcCalls callOK Tryd.prog Tryd.f100 f100_h #[g_0, (Value.int .i64 set_1)] w R = f100_vc g_0 set_1 w R := by kernel_rfl
theorem f100_ok : bodyOk Tryd.prog Tryd.f100 f100_h = true := by kernel_rfl
theorem f100_calls (g_0 : Value) (set_1 : Int) {w : World} {R : Ending → World → Prop} (h : f100_vc g_0 set_1 w R) : Calls Tryd.prog 100 #[g_0, (Value.int .i64 set_1)] w R :=
  calls_of_eq callAll mixed Tryd.func100 f100_ok (f100_eq g_0 set_1 w R) h

/-! 101 (cubeb/chordal.Graph).order lit 1 -/
def f101_h : HT := .seq none (.region (.plain [])) (.seq none (.region (.q true [])) (.leaf))
def f101_vc (i_0 : Int) (q1 : Addr) (q2 : Addr) (w : World) (R : Ending → World → Prop) : Prop :=
  ∃ t_v1 : Value, (w).cell? q1 = some t_v1 ∧ ∃ t_v2 : Value, (w).cell? q1 = some t_v2 ∧ ∃ (a_v3 : Addr) (n_v4 c_v5 : Nat), t_v2 = Value.slice (some a_v3) n_v4 c_v5 ∧ ((0 : Int) ≤ i_0 ∧ i_0 < (n_v4 : Int)) ∧ ∃ t_v6 : Int, (w).cell? (a_v3.add (Int.toNat i_0 * 1)) = some (Value.int .i64 t_v6) ∧ ∃ t_v7 : Int, (w).cell? q2 = some (Value.int .i64 t_v7) ∧ ∃ t_v11 : Bool, (∀ w_v8, Grow (w) w_v8 → Calls Tryd.prog 67 #[t_v1, (Value.int .i64 (iAnd .i64 t_v6 t_v7))] w_v8 fun e_v10 w_v9 => e_v10 = .returned (Value.bool t_v11) ∧ Grow w_v8 w_v9) ∧ ∀ w_v12, Grow (w) w_v12 → R (.returned (Value.bool t_v11)) (w_v12)
theorem f101_eq (i_0 : Int) (q1 : Addr) (q2 : Addr) (w : World) (R : Ending → World → Prop) : vcCalls callOK Tryd.prog Tryd.f101 f101_h #[(Value.int .i64 i_0), (Value.pointer (some q1)), (Value.pointer (some q2))] w R = f101_vc i_0 q1 q2 w R := by kernel_rfl
theorem f101_ok : bodyOk Tryd.prog Tryd.f101 f101_h = true := by kernel_rfl
theorem f101_calls (i_0 : Int) (q1 : Addr) (q2 : Addr) {w : World} {R : Ending → World → Prop} (h : f101_vc i_0 q1 q2 w R) : Calls Tryd.prog 101 #[(Value.int .i64 i_0), (Value.pointer (some q1)), (Value.pointer (some q2))] w R :=
  calls_of_eq callAll mixed Tryd.func101 f101_ok (f101_eq i_0 q1 q2 w R) h

/-! 102 (cubeb/chordal.Graph).clique lit 1 -/
def f102_h : HT := .seq none (.region (.plain [])) (.seq none (.region (.q false [])) (.leaf))
def f102_vc (i_0 : Int) (q1 : Addr) (q2 : Addr) (w : World) (R : Ending → World → Prop) : Prop :=
  ∃ t_v1 : Int, (w).cell? q1 = some (Value.int .i64 t_v1) ∧ ∃ t_v2 : Value, (w).cell? q2 = some t_v2 ∧ ∃ (a_v3 : Addr) (n_v4 c_v5 : Nat), t_v2 = Value.slice (some a_v3) n_v4 c_v5 ∧ ((0 : Int) ≤ i_0 ∧ i_0 < (n_v4 : Int)) ∧ ∃ t_v6 : Int, (w).cell? (a_v3.add (Int.toNat i_0 * 1)) = some (Value.int .i64 t_v6) ∧ (0 : Int) ≤ i_0 ∧ ∀ m_v7 : Nat, R (.returned (Value.bool (!decide ((iAndNot .i64 (iAndNot .i64 t_v1 t_v6) (iShl .i64 1 i_0)) = (0 : Int))))) (dr (w) m_v7)
theorem f102_eq (i_0 : Int) (q1 : Addr) (q2 : Addr) (w : World) (R : Ending → World → Prop) : vcCalls callOK Tryd.prog Tryd.f102 f102_h #[(Value.int .i64 i_0), (Value.pointer (some q1)), (Value.pointer (some q2))] w R = f102_vc i_0 q1 q2 w R := by kernel_rfl
theorem f102_ok : bodyOk Tryd.prog Tryd.f102 f102_h = true := by kernel_rfl
theorem f102_calls (i_0 : Int) (q1 : Addr) (q2 : Addr) {w : World} {R : Ending → World → Prop} (h : f102_vc i_0 q1 q2 w R) : Calls Tryd.prog 102 #[(Value.int .i64 i_0), (Value.pointer (some q1)), (Value.pointer (some q2))] w R :=
  calls_of_eq callAll mixed Tryd.func102 f102_ok (f102_eq i_0 q1 q2 w R) h

/-! 103 (cubeb/chordal.Graph).independent lit 1 -/
def f103_h : HT := .seq none (.region (.plain [])) (.seq none (.region (.q false [])) (.leaf))
def f103_vc (i_0 : Int) (q1 : Addr) (q2 : Addr) (w : World) (R : Ending → World → Prop) : Prop :=
  ∃ t_v1 : Int, (w).cell? q1 = some (Value.int .i64 t_v1) ∧ ∃ t_v2 : Value, (w).cell? q2 = some t_v2 ∧ ∃ (a_v3 : Addr) (n_v4 c_v5 : Nat), t_v2 = Value.slice (some a_v3) n_v4 c_v5 ∧ ((0 : Int) ≤ i_0 ∧ i_0 < (n_v4 : Int)) ∧ ∃ t_v6 : Int, (w).cell? (a_v3.add (Int.toNat i_0 * 1)) = some (Value.int .i64 t_v6) ∧ ∀ m_v7 : Nat, R (.returned (Value.bool (!decide ((iAnd .i64 t_v1 t_v6) = (0 : Int))))) (dr (w) m_v7)
theorem f103_eq (i_0 : Int) (q1 : Addr) (q2 : Addr) (w : World) (R : Ending → World → Prop) : vcCalls callOK Tryd.prog Tryd.f103 f103_h #[(Value.int .i64 i_0), (Value.pointer (some q1)), (Value.pointer (some q2))] w R = f103_vc i_0 q1 q2 w R := by kernel_rfl
theorem f103_ok : bodyOk Tryd.prog Tryd.f103 f103_h = true := by kernel_rfl
theorem f103_calls (i_0 : Int) (q1 : Addr) (q2 : Addr) {w : World} {R : Ending → World → Prop} (h : f103_vc i_0 q1 q2 w R) : Calls Tryd.prog 103 #[(Value.int .i64 i_0), (Value.pointer (some q1)), (Value.pointer (some q2))] w R :=
  calls_of_eq callAll mixed Tryd.func103 f103_ok (f103_eq i_0 q1 q2 w R) h

/-! 104 math/bits.TrailingZeros -/
def f104_h : HT := .seq none (.region (.plain [])) (.seq none (.cond (.seq none (.region (.plain [])) (.leaf)) (.leaf)) (.seq none (.region (.plain [])) (.leaf)))
def f104_vc (x_0 : Int) (w : World) (R : Ending → World → Prop) : Prop :=
  Calls Tryd.prog 118 #[(Value.int .u64 x_0)] (w) fun e_v2 w_v1 => ∃ t_v3 : Int, e_v2 = .returned (Value.int .i64 t_v3) ∧ R (.returned (Value.int .i64 t_v3)) (w_v1)
theorem f104_eq (x_0 : Int) (w : World) (R : Ending → World → Prop) : vcCalls callOK Tryd.prog Tryd.f104 f104_h #[(Value.int .u64 x_0)] w R = f104_vc x_0 w R := by kernel_rfl
theorem f104_ok : bodyOk Tryd.prog Tryd.f104 f104_h = true := by kernel_rfl
theorem f104_calls (x_0 : Int) {w : World} {R : Ending → World → Prop} (h : f104_vc x_0 w R) : Calls Tryd.prog 104 #[(Value.int .u64 x_0)] w R :=
  calls_of_eq callAll mixed Tryd.func104 f104_ok (f104_eq x_0 w R) h

/-! 105 slices.Index[[]int,int] -/
def f105_h : HT := .seq none (.region (.plain [])) (.seq none (.seq none (.region (.plain [])) (.block (.loop [(8, .int .i64)] (.seq none (.region (.plain [])) (.seq none (.cond (.leaf) (.leaf)) (.seq none (.block (.seq none (.region (.plain [])) (.seq none (.region (.plain [])) (.cond (.seq none (.region (.plain [])) (.leaf)) (.leaf))))) (.region (.plain [])))))))) (.seq none (.region (.plain [])) (.leaf)))
def f105_vc (s_0 : Value) (v_1 : Int) (w : World) (R : Ending → World → Prop) : Prop :=
  ∃ (a_v1 : Option Addr) (n_v2 c_v3 : Nat), s_0 = Value.slice a_v1 n_v2 c_v3 ∧ ∃ (I_v4 : Int → World → Prop) (μ_v5 : Int → World → Nat), I_v4 0 (w) ∧ ∀ (j_v6 : Nat → Value) (t_v7 : Int) (w_v8 : World), I_v4 t_v7 w_v8 → condP (decide (t_v7 < ((n_v2 : Int) : Int))) (∃ (a_v9 : Addr) (n_v10 c_v11 : Nat), s_0 = Value.slice (some a_v9) n_v10 c_v11 ∧ ((0 : Int) ≤ t_v7 ∧ t_v7 < (n_v10 : Int)) ∧ ∃ t_v12 : Int, (w_v8).cell? (a_v9.add (Int.toNat t_v7 * 1)) = some (Value.int .i64 t_v12) ∧ condP (decide (v_1 = (t_v12 : Int))) (R (.returned (Value.int .i64 t_v7)) (w_v8)) (inR (t_v7 + 1) ∧ (I_v4 (t_v7 + 1) (w_v8) ∧ μ_v5 (t_v7 + 1) (w_v8) < μ_v5 t_v7 w_v8))) (R (.returned (Value.int .i64 (-1))) (w_v8))
theorem f105_eq (s_0 : Value) (v_1 : Int) (w : World) (R : Ending → World → Prop) : vcCalls callOK Tryd.prog Tryd.f105 f105_h #[s_0, (Value.int .i64 v_1)] w R = f105_vc s_0 v_1 w R := by kernel_rfl
theorem f105_ok : bodyOk Tryd.prog Tryd.f105 f105_h = true := by kernel_rfl
theorem f105_calls (s_0 : Value) (v_1 : Int) {w : World} {R : Ending → World → Prop} (h : f105_vc s_0 v_1 w R) : Calls Tryd.prog 105 #[s_0, (Value.int .i64 v_1)] w R :=
  calls_of_eq callAll mixed Tryd.func105 f105_ok (f105_eq s_0 v_1 w R) h

/-! 106 (cubeb/chordal.Graph).lined lit 1 -/
def f106_h : HT := .seq none (.region (.plain [])) (.seq none (.seq none (.region (.plain [])) (.cond (.seq none (.region (.plain [])) (.leaf)) (.leaf))) (.seq none (.seq none (.region (.plain [])) (.block (.loop [(19, .int .i64)] (.seq none (.region (.plain [])) (.seq none (.cond (.leaf) (.leaf)) (.seq none (.block (.seq none (.region (.plain [])) (.seq none (.seq none (.region (.plain [5])) (.cond (.leaf) (.leaf))) (.seq none (.region (.plain [])) (.seq none (.seq none (.region (.q true [])) (.cond (.seq none (.region (.plain [])) (.leaf)) (.leaf))) (.region (.plain []))))))) (.region (.plain [])))))))) (.seq none (.region (.plain [])) (.leaf))))
def f106_vc (used_0 : Int) (seen_1 : Int) (over_2 : Int) (q3 : Addr) (q4 : Addr) (q5 : Addr) (w : World) (R : Ending → World → Prop) : Prop :=
  ∃ t_v1 : Value, (w).cell? q3 = some t_v1 ∧ ∃ (a_v2 : Option Addr) (n_v3 c_v4 : Nat), t_v1 = Value.slice a_v2 n_v3 c_v4 ∧ ∃ t_v5 : Value, (w).cell? q4 = some t_v5 ∧ ∃ (a_v6 : Option Addr) (n_v7 c_v8 : Nat), t_v5 = Value.slice a_v6 n_v7 c_v8 ∧ condP (decide ((n_v3 : Int) = ((n_v7 : Int) : Int))) (R (.returned (Value.bool true)) (w)) (∃ t_v9 : Value, (w).cell? q4 = some t_v9 ∧ ∃ (a_v10 : Option Addr) (n_v11 c_v12 : Nat), t_v9 = Value.slice a_v10 n_v11 c_v12 ∧ ∃ (I_v13 : Int → World → Prop) (μ_v14 : Int → World → Nat), I_v13 0 (w) ∧ ∀ (j_v15 : Nat → Value) (t_v16 : Int) (w_v17 : World), I_v13 t_v16 w_v17 → condP (decide (t_v16 < ((n_v11 : Int) : Int))) (∃ (a_v18 : Addr) (n_v19 c_v20 : Nat), t_v9 = Value.slice (some a_v18) n_v19 c_v20 ∧ ((0 : Int) ≤ t_v16 ∧ t_v16 < (n_v19 : Int)) ∧ ∃ t_v21 : Int, (w_v17).cell? (a_v18.add (Int.toNat t_v16 * 1)) = some (Value.int .i64 t_v21) ∧ (0 : Int) ≤ t_v16 ∧ condP (decide ((iAnd .i64 (iShr .i64 used_0 t_v16) 1) = (1 : Int))) (inR (t_v16 + 1) ∧ (I_v13 (t_v16 + 1) (w_v17) ∧ μ_v14 (t_v16 + 1) (w_v17) < μ_v14 t_v16 w_v17)) (condP (!decide ((iAnd .i64 t_v21 over_2) = (0 : Int))) (inR (t_v16 + 1) ∧ (I_v13 (t_v16 + 1) (w_v17) ∧ μ_v14 (t_v16 + 1) (w_v17) < μ_v14 t_v16 w_v17)) (∃ t_v22 : Value, (w_v17).cell? q3 = some t_v22 ∧ ∀ w_v23, w_v23 = (w_v17).alloc (.cells #[(Value.int .i64 t_v21)] 3) → PApp Tryd.prog 22 22 t_v22 (Value.slice (some ⟨(w_v17).heap.size, 0, none⟩) 1 1) (w_v23) fun t_v24 w_v25 => oneV t_v24 ∧ (∃ old, (w_v25).cell? q3 = some old) ∧ (w_v25).frozen? q3 = false ∧ ∀ w_v26, w_v26 = (w_v25).setCell q3 t_v24 → ∃ t_v27 : Value, (w_v26).cell? q5 = some t_v27 ∧ (0 : Int) ≤ t_v16 ∧ ∃ (g_v31 : FuncId) (fst_v32 cap_v33 : Array Value), t_v27 = Value.func (.func g_v31) fst_v32 cap_v33 ∧ callOK g_v31 = true ∧ ∃ t_v34 : Bool, (∀ w_v28, Grow (w_v26) w_v28 → Calls Tryd.prog g_v31 (fst_v32 ++ #[(Value.int .i64 (iOr .i64 used_0 (iShl .i64 1 t_v16))), (Value.int .i64 (iOr .i64 seen_1 t_v21)), (Value.int .i64 (iOr .i64 over_2 (iAndNot .i64 seen_1 t_v21)))] ++ cap_v33) w_v28 fun e_v30 w_v29 => e_v30 = .returned (Value.bool t_v34) ∧ Grow w_v28 w_v29) ∧ ∀ w_v35, Grow (w_v26) w_v35 → condP t_v34 (R (.returned (Value.bool true)) (w_v35)) (∃ t_v36 : Value, (w_v35).cell? q3 = some t_v36 ∧ ∃ t_v37 : Value, (w_v35).cell? q3 = some t_v37 ∧ ∃ (a_v38 : Option Addr) (n_v39 c_v40 : Nat), t_v37 = Value.slice a_v38 n_v39 c_v40 ∧ inR ((n_v39 : Int) - 1) ∧ ∃ (a_v41 : Option Addr) (n_v42 c_v43 : Nat), t_v36 = Value.slice a_v41 n_v42 c_v43 ∧ ∃ l_v44 h_v45 m_v46 : Nat, sbR none (some (Value.int .i64 ((n_v39 : Int) - 1))) none n_v42 c_v43 l_v44 h_v45 m_v46 ∧ oneV (Value.slice (if m_v46 = l_v44 then a_v41 else a_v41.map (·.add (l_v44 * 1))) (h_v45 - l_v44) (m_v46 - l_v44)) ∧ (∃ old, (w_v35).cell? q3 = some old) ∧ (w_v35).frozen? q3 = false ∧ ∀ w_v47, w_v47 = (w_v35).setCell q3 (Value.slice (if m_v46 = l_v44 then a_v41 else a_v41.map (·.add (l_v44 * 1))) (h_v45 - l_v44) (m_v46 - l_v44)) → inR (t_v16 + 1) ∧ (I_v13 (t_v16 + 1) (w_v47) ∧ μ_v14 (t_v16 + 1) (w_v47) < μ_v14 t_v16 w_v17))))) (R (.returned (Value.bool false)) (w_v17)))
theorem f106_eq (used_0 : Int) (seen_1 : Int) (over_2 : Int) (q3 : Addr) (q4 : Addr) (q5 : Addr) (w : World) (R : Ending → World → Prop) : vcCalls callOK Tryd.prog Tryd.f106 f106_h #[(Value.int .i64 used_0), (Value.int .i64 seen_1), (Value.int .i64 over_2), (Value.pointer (some q3)), (Value.pointer (some q4)), (Value.pointer (some q5))] w R = f106_vc used_0 seen_1 over_2 q3 q4 q5 w R := by kernel_rfl
theorem f106_ok : bodyOk Tryd.prog Tryd.f106 f106_h = true := by kernel_rfl
theorem f106_calls (used_0 : Int) (seen_1 : Int) (over_2 : Int) (q3 : Addr) (q4 : Addr) (q5 : Addr) {w : World} {R : Ending → World → Prop} (h : f106_vc used_0 seen_1 over_2 q3 q4 q5 w R) : Calls Tryd.prog 106 #[(Value.int .i64 used_0), (Value.int .i64 seen_1), (Value.int .i64 over_2), (Value.pointer (some q3)), (Value.pointer (some q4)), (Value.pointer (some q5))] w R :=
  calls_of_eq callAll mixed Tryd.func106 f106_ok (f106_eq used_0 seen_1 over_2 q3 q4 q5 w R) h

end Go.Proofs.YtmpjanpmkmlloaaDoor
