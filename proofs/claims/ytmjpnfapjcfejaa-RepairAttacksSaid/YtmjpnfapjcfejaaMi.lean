/- Plain: all matches of a query, their number, its results; other facts. No program. No condition. -/
import Derived.Test.YtmjpnfapjcfejaaMh
import Derived.Test.YtmjpnfapjcfejaaMc
namespace Go.Proofs.Ytmjpnfapjcfejaa
set_option linter.unusedSimpArgs false
set_option linter.unusedVariables false

theorem IsM.sub {fs fs' b : List Atm} {m : Vals} (h : IsM fs b m) (hs : ∀ a ∈ b, imgA m a ∈ fs → imgA m a ∈ fs') : IsM fs' b m := ⟨h.len, h.dom, fun a ha => hs a ha (h.hit a ha)⟩
/-! ## Two bodies without common variables -/
end Go.Proofs.Ytmjpnfapjcfejaa
