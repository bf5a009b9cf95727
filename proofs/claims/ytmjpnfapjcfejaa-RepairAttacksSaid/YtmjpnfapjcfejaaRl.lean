/- Contracts: the reference's valid books, blocks, repairs. No condition. -/
import Derived.Test.YtmjpnfapjcfejaaRf
import Derived.Test.YtmjpnfapjcfejaaSh
import Derived.Test.YtmjpnfapjcfejaaRi
namespace Go.Proofs.Ytmjpnfapjcfejaa
open Go Go.RowKit VC
set_option linter.unusedSimpArgs false
set_option linter.unusedVariables false

theorem bitR {s i : Nat} (h : i < 63) : (iAnd .i64 (iShr .i64 (s : Int) (i : Int)) 1 = 1) ↔ s.testBit i = true := by
  rw [iBit _ (by omega), ibit_nat]
  cases s.testBit i <;> simp
theorem refSchema_c {w : World} {sv : Value} {s : List Int} (hs : SlI w sv s) : Calls Try.prog 8 #[sv] w (Ret w (.bool (okS s))) := by
  refine f8_calls _ ?_
  have hle := hs.len_le
  refine hs.ln ⟨fun t w' => ∃ k : Nat, t = k ∧ k ≤ s.length ∧ w' = w ∧ ∀ j (hj : j < s.length), j < k → 0 ≤ s[j] ∧ s[j] ≤ 3, fun t _ => s.length - t.toNat, ⟨0, rfl, by omega, rfl, fun j _ h => by omega⟩, ?_⟩
  rintro - t w8 ⟨k, rfl, hk, rfl, hok⟩
  have bad : ∀ (hkl : k < s.length), ¬ (0 ≤ s[k] ∧ s[k] ≤ 3) → okS s = false := fun hkl h => by
    rw [← Bool.not_eq_true]
    exact fun h2 => h ((okS_out h2).2 _ (List.getElem_mem hkl))
  refine condD (fun hlt => ?_) fun hge => ?_
  · have hkl : k < s.length := by omega
    refine hs.rd rfl hkl (condD (fun h => ⟨by rw [bad hkl (by omega)], Grow.refl _⟩) fun h0 => condD (fun h => ⟨by rw [bad hkl (by omega)], Grow.refl _⟩) fun h3 => ⟨by unfold inR; omega, ⟨k + 1, by omega, by omega, rfl, fun j hj hlt2 => ?_⟩, by dsimp only; omega⟩)
    by_cases e : j = k
    · subst e; omega
    · exact hok j hj (by omega)
  · refine hs.ln ⟨?_, Grow.refl _⟩
    have hall : (s.all fun x => decide (0 ≤ x) && decide (x ≤ 3)) = true := List.all_eq_true.2 fun x hx => by
      obtain ⟨j, hj, rfl⟩ := List.getElem_of_mem hx
      have := hok j hj (by omega)
      simp [this]
    have e : decide ((s.length : Int) = 6) = decide (s.length = 6) := by
      rw [decide_eq_decide]; omega
    rw [okS, hall, Bool.and_true, e]
end Go.Proofs.Ytmjpnfapjcfejaa

/- Contracts: the reference's questions. No condition. -/
namespace Go.Proofs.Ytmjpnfapjcfejaa
open Go Go.RowKit VC
set_option linter.unusedSimpArgs false
set_option linter.unusedVariables false

section
variable {w : World} {sv fv hv bv : Value} {s h : List Int} {b L : List Atm}
/-- The least and the greatest of a list, if it is not empty. -/
def LowHigh (l : List Int) (lo hi : Int) : Prop := lo ∈ l ∧ hi ∈ l ∧ ∀ x ∈ l, lo ≤ x ∧ x ≤ hi
theorem LowHigh.uniq {l : List Int} {lo hi lo' hi' : Int} (h : LowHigh l lo hi) (h' : LowHigh l lo' hi') : lo = lo' ∧ hi = hi' := by
  have a := h.2.2 _ h'.1
  have b := h.2.2 _ h'.2.1
  have c := h'.2.2 _ h.1
  have d := h'.2.2 _ h.2.1
  exact ⟨by omega, by omega⟩
end
end Go.Proofs.Ytmjpnfapjcfejaa
