/- Questions answered atom by atom, with numbers for the variables that are known (0: none): what the rule says, and that it says whether a question is certain. Of no program. No condition. -/
import Derived.Test.YtmjpnfapjcfejaaRc
import Derived.Test.YtmjpnfapjcfejaaRv
namespace Go.Proofs.Ytmjpnfapjcfejaa
open VC
set_option linter.unusedSimpArgs false
set_option linter.unusedVariables false

/-! ## Numbers for variables -/
def mg (m : List Int) (x : Nat) : Int := m.getD x 0
section
variable {kl : Int → Nat} {atoms : List Atm} {m : List Int}
/-! ## The atom that is answered first -/
end
/-! ## An atom and a fact -/
theorem mg_set {m : List Int} {x y : Nat} {z : Int} (hx : x < m.length) : mg (m.set x z) y = if y = x then z else mg m y := by
  unfold mg
  simp only [List.getD_eq_getElem?_getD, List.getElem?_set]
  by_cases h : x = y
  · subst h
    simp [hx]
  · rw [if_neg h, if_neg (fun e => h e.symm)]
/-! ## The rule -/
section
variable (kl : Int → Nat) (L : List Atm)
variable {kl} {L}
theorem Cert.congr {db atoms : List Atm} {D D' : Nat → Prop} {m m' : Nat → Int} (h : Cert kl db atoms D m) (hD : ∀ x, D' x → D x) (hD2 : ∀ x, D x → D' x) (hm : ∀ x, D x → m' x = m x) : Cert kl db atoms D' m' := fun r hr => by
  obtain ⟨θ, h1, h2⟩ := h r hr
  exact ⟨θ, fun x hx => (h1 x (hD x hx)).trans (hm x (hD x hx)).symm, h2⟩
theorem Acy.congr {atoms : List Atm} {D D' : Nat → Prop} (h : Acy kl atoms D) (hD : ∀ x, D' x ↔ D x) : Acy kl atoms D' := by
  have : D' = D := funext fun x => propext (hD x)
  rw [this]
  exact h
end
end Go.Proofs.Ytmjpnfapjcfejaa
