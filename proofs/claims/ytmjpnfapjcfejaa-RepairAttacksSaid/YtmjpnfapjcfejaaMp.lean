/- Contracts of the reference: what fits. No condition. -/
import Derived.Test.YtmjpnfapjcfejaaMn
import Derived.Test.YtmjpnfapjcfejaaMk
namespace Go.Proofs.Ytmjpnfapjcfejaa
open Go Go.RowKit VC
set_option linter.unusedSimpArgs false
set_option linter.unusedVariables false

theorem set_same {m : Vals} {k : Nat} {y : Int} (hk : k < m.length) (h : m.getD k 0 = y) : m.set k y = m := by
  apply List.ext_getElem (by simp)
  intro i h1 h2
  rw [List.getElem_set]
  split
  · rename_i e
    subst e
    rw [← h]; simp [List.getD, hk]
  · rfl
end Go.Proofs.Ytmjpnfapjcfejaa
