/- Terms of a question that is being rewritten; the first atom by masks; numbers that an atom and a fact give. Of no program. No condition. -/
import Derived.Test.YtmjpnfapjcfejaaSf
import Derived.Test.YtmjpnfapjcfejaaRv
import Derived.Test.YtmjpnfapjcfejaaMr
import Derived.Test.YtmjpnfapjcfejaaSa
import Derived.Test.YtmjpnfapjcfejaaVq
namespace Go.Proofs.Ytmjpnfapjcfejaa
open Go VC
set_option linter.unusedSimpArgs false
set_option linter.unusedVariables false

/-! ## Terms -/
abbrev TAtm := Int × List (Int × Int)
section
variable {s : List Int} {atoms : List Atm} {m : List Int}
end
/-! ## The first atom, by masks -/
/-! ## Two atoms that attack each other -/
/-! ## Numbers that an atom and a fact give -/
/-- A map holds the numbers that m' has beyond those of m. -/
def NewM (kv : List (Int × Value)) (m m' : List Int) : Prop := ∀ x : Nat, getM kv (x : Int) = if mg m x = 0 ∧ mg m' x ≠ 0 then some (.int .i64 (mg m' x)) else none
theorem NewM.nil (m : List Int) : NewM [] m m := fun x => by
  rw [if_neg fun h => h.2 h.1]
  rfl
theorem NewM.upd {kv : List (Int × Value)} {m m' : List Int} (h : NewM kv m m') {y : Nat} (hy : y < m'.length) (h0 : mg m y = 0) {z : Int} (hz : z ≠ 0) : NewM (updM kv (y : Int) (.int .i64 z)) m (m'.set y z) := fun x => by
  rw [getM_upd, mg_set hy]
  by_cases e : x = y
  · subst e
    rw [if_pos rfl, if_pos rfl, if_pos ⟨h0, hz⟩]
  · rw [if_neg (by omega), if_neg e, h x]
end Go.Proofs.Ytmjpnfapjcfejaa
