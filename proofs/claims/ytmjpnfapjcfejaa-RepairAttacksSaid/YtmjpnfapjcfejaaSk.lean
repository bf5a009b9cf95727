/- The error of a question, of its copy. Of no program. No condition. -/
import Derived.Test.YtmjpnfapjcfejaaSd
import Derived.Test.YtmjpnfapjcfejaaRn
namespace Go.Proofs.Ytmjpnfapjcfejaa
open Go Go.RowKit VC
set_option linter.unusedSimpArgs false
set_option linter.unusedVariables false

theorem askN_tr (s h : List Int) (b : List Atm) : askN (s.take 9) (h.take 9) (trB b) = askN s h b := by
  unfold askN
  rw [okS_tr, okQ_tr]
  by_cases hS : okS s = true
  · by_cases hq : okQ h b = true
    · rw [okS_take hS, (trB_of hq).1]
    · have hq : okQ h b = false := by simpa using hq
      rw [hq]
      simp
  · have hS : okS s = false := by simpa using hS
    rw [hS]
    simp
end Go.Proofs.Ytmjpnfapjcfejaa
