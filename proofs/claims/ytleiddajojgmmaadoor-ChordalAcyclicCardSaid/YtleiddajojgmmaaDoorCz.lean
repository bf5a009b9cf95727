/- The rows' condition on the listed tables gives what the contracts ask (Tab); the door's own heap meets it. -/
import Derived.Test.YtleiddajojgmmaaDoorRows
import Derived.Test.YtleiddajojgmmaaDoorCb
import Derived.Test.YtleiddajojgmmaaDoorKt
namespace Go.Proofs.YtleiddajojgmmaaDoor
open Go Go.RowKit Go.ChangeShapes Go.WideShapes VC
set_option linter.unusedSimpArgs false
set_option linter.unusedVariables false
set_option maxRecDepth 100000

def laidAll : List (String × DataW Unit) := [("math/bits.deBruijn32tab", Rows.laid_math_bits_deBruijn32tab), ("math/bits.deBruijn64tab", Rows.laid_math_bits_deBruijn64tab)]
theorem own_knob : ownKnob Tryd.prog.godebug = none := by kernel_rfl
theorem gTab : Tryd.prog.globalNamed "math/bits.deBruijn64tab" = some 1 := by kernel_rfl
theorem tTab : (Tryd.prog.globals[1]?).map (·.type) = some 105 := by kernel_rfl
theorem tab_data {H : Type} : (Rows.laid_math_bits_deBruijn64tab : DataW H) = Lib.tabData .u8 (tab64.map fun n : Nat => (n : Int)) := rfl
theorem tab_of_laid {W : World} (h : laidMetH Tryd.prog laidAll W) : Tab W := by
  rw [MakeChecks.laidMetH_plain _ _ _ (by kernel_rfl)] at h
  obtain ⟨ps, ⟨g0, t0, cs0, f0, p0, q0, hg0, ht0, hv0, hd0, ⟨g1, t1, cs1, f1, p1, q1, hg1, ht1, hv1, hd1, _, _⟩, _⟩, _, _⟩ := h
  obtain rfl := Option.some.inj (gTab.symm.trans hg1)
  obtain rfl := Option.some.inj (tTab.symm.trans ht1)
  rw [tab_data] at hd1
  have hcs := Lib.cells_of_tab (n := 64) (e := 5) (by kernel_rfl) (by kernel_rfl) (by kernel_rfl) (by kernel_rfl) hd1
  intro j hj
  have hlen : tab64.length = 64 := rfl
  have h1 := World.var?_cell gTab hv1 j
  have e : (cs1 : Array Value)[j]? = some (.int .u8 ((tab64.getD j 0 : Nat) : Int)) := by
    obtain ⟨l1⟩ := cs1
    simp only at hcs
    rw [hcs]
    simp [List.getD, hlen, hj]
  rw [e] at h1
  have e2 : (Addr.add ⟨1, 0, none⟩ j) = ⟨1, j, none⟩ := by
    unfold Addr.add
    split <;> simp_all
  rw [e2]
  exact h1
theorem door_met (os : Os) (args : Array Value) : laidMetH Tryd.prog laidAll ((World.doorLaid Tryd.prog 400 os).forCall (fun _ _ => 0) ⟨#[], args, []⟩).memory :=
  laidMetH_of_parts3 (fuel := 8) (laidMet_of_run' 8 (by kernel_rfl) (by kernel_rfl)) (by kernel_rfl) (by kernel_rfl)
end Go.Proofs.YtleiddajojgmmaaDoor
