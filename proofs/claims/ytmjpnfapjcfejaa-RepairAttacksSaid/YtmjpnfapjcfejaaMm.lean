/- Contracts: results and their number. No condition. -/
import Derived.Test.YtmjpnfapjcfejaaMk
import Derived.Test.YtmjpnfapjcfejaaMj
namespace Go.Proofs.Ytmjpnfapjcfejaa
open Go Go.RowKit VC
set_option linter.unusedSimpArgs false
set_option linter.unusedVariables false

theorem okQ_len {h : List Int} {b : List Atm} (hq : okQ h b = true) : 1 ≤ b.length ∧ b.length ≤ 5 ∧ h.length ≤ 4 := by
  simp only [okQ, Bool.and_eq_true, decide_eq_true_eq] at hq
  exact ⟨hq.1.1.1.1, hq.1.1.1.2, hq.1.1.2⟩
theorem SlR.nil {α : Type} {f : α → List Value} (w : World) : SlR f w (.slice none 0 0) [] := SlC.nil w
end Go.Proofs.Ytmjpnfapjcfejaa
