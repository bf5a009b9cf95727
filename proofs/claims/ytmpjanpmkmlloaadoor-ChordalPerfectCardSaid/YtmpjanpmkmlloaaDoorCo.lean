/- math/bits.OnesCount counts the elements of a set below 4096. -/
import Derived.Test.YtmpjanpmkmlloaaDoorCa
namespace Go.Proofs.YtmpjanpmkmlloaaDoor
open Go Go.RowKit VC
set_option linter.unusedSimpArgs false
set_option linter.unusedVariables false

/-! ## OnesCount -/
def oc1 (x : Int) : Int := IntKind.wrap .u64 ((iAnd .u64 (iShr .u64 x 1) 6148914691236517205) + (iAnd .u64 x 6148914691236517205))
def oc2 (x : Int) : Int := IntKind.wrap .u64 ((iAnd .u64 (iShr .u64 x 2) 3689348814741910323) + (iAnd .u64 x 3689348814741910323))
def oc3 (x : Int) : Int := iAnd .u64 (IntKind.wrap .u64 ((iShr .u64 x 4) + x)) 1085102592571150095
def oc4 (x : Int) : Int := IntKind.wrap .u64 (x + (iShr .u64 x 8))
def oc5 (x : Int) : Int := IntKind.wrap .u64 (x + (iShr .u64 x 16))
def oc6 (x : Int) : Int := IntKind.wrap .u64 (x + (iShr .u64 x 32))
def ocX (x : Int) : Int := iAnd .i64 (IntKind.wrap .i64 (oc6 (oc5 (oc4 (oc3 (oc2 (oc1 x))))))) 127
theorem ocAll : ∀ a, a < 64 → ∀ b, b < 64 → (ocX ((a * 64 + b : Nat) : Int) == ((pc (a * 64 + b) : Nat) : Int)) = true := by decide +kernel
theorem ones64_c {s : Nat} (h : s < 4096) {w : World} : Calls Tryd.prog 111 #[.int .u64 (s : Int)] w (Ret w (.int .i64 (pc s : Int))) := by
  refine f111_calls _ ?_
  have hk := all4096 (p := fun s => (ocX (s : Int) == ((pc s : Nat) : Int)) = true) ocAll s h
  refine ⟨by omega, by omega, by omega, by omega, by omega, by omega, ?_, Grow.refl w⟩
  have e : ocX (s : Int) = ((pc s : Nat) : Int) := by simpa using hk
  rw [← e]
  rfl
theorem ones_c {s : Nat} (h : s < 4096) {w : World} : Calls Tryd.prog 87 #[.int .u64 (s : Int)] w (Ret w (.int .i64 (pc s : Int))) := by
  refine f87_calls _ ?_
  refine (ones64_c h).mono ?_
  rintro e w' ⟨rfl, hg⟩
  exact ⟨_, rfl, rfl, hg⟩

end Go.Proofs.YtmpjanpmkmlloaaDoor
