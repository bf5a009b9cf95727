/- Valid books: a schema, and facts without doubles. Of no program. No condition. -/
import Derived.Test.YtmjpnfapjcfejaaRc
import Derived.Test.YtmjpnfapjcfejaaMr
namespace Go.Proofs.Ytmjpnfapjcfejaa
open VC
set_option linter.unusedSimpArgs false
set_option linter.unusedVariables false

/-! ## Valid books -/
def okS (s : List Int) : Bool := decide (s.length = 6) && s.all fun x => decide (0 ≤ x) && decide (x ≤ 3)
/-- Of one relation all facts have as many Args, and no two are the same. -/
def okP : List Atm → Bool
  | [] => true
  | f :: r => r.all (fun g => !decide (f.1 = g.1) || (decide (f.2.length = g.2.length) && !decide (f.2 = g.2))) && okP r
def okR (s : List Int) (L : List Atm) : Bool := okS s && decide (L.length ≤ 12) && L.all okF && okP L
theorem okP_iff {L : List Atm} : okP L = true ↔ L.Pairwise fun f g => f.1 = g.1 → f.2.length = g.2.length ∧ f.2 ≠ g.2 := by
  induction L with
  | nil => simp [okP]
  | cons f r ih =>
    rw [okP, Bool.and_eq_true, ih, List.pairwise_cons, List.all_eq_true]
    refine and_congr_left fun _ => ?_
    refine forall_congr' fun g => forall_congr' fun _ => ?_
    by_cases h : f.1 = g.1
    · simp [h]
    · simp [h]
theorem okR_out {s : List Int} {L : List Atm} (h : okR s L = true) : okS s = true ∧ L.length ≤ 12 ∧ okFs L = true ∧ L.Nodup ∧ ∀ f ∈ L, ∀ g ∈ L, f.1 = g.1 → f.2.length = g.2.length := by
  simp only [okR, Bool.and_eq_true, decide_eq_true_eq] at h
  obtain ⟨⟨⟨h1, h2⟩, h3⟩, h4⟩ := h
  have hp := okP_iff.1 h4
  refine ⟨h1, h2, ?_, ?_, ?_⟩
  · simp only [okFs, Bool.and_eq_true, decide_eq_true_eq]
    exact ⟨by omega, h3⟩
  · exact hp.imp fun {a b} hab e => by subst e; exact (hab rfl).2 rfl
  · intro f hf g hg e
    have sym : L.Pairwise fun f g => f.1 = g.1 → f.2.length = g.2.length := hp.imp fun h e => (h e).1
    obtain ⟨i, hi, rfl⟩ := List.getElem_of_mem hf
    obtain ⟨j, hj, rfl⟩ := List.getElem_of_mem hg
    rcases Nat.lt_trichotomy i j with h | h | h
    · exact List.pairwise_iff_getElem.1 sym i j hi hj h e
    · subst h; rfl
    · exact (List.pairwise_iff_getElem.1 sym j i hj hi h e.symm).symm
theorem okS_out {s : List Int} (h : okS s = true) : s.length = 6 ∧ ∀ x ∈ s, 0 ≤ x ∧ x ≤ 3 := by
  simpa [okS, List.all_eq_true] using h
theorem okS_tr (s : List Int) : okS (s.take 9) = okS s := by
  rcases Nat.lt_or_ge s.length 10 with h | h
  · rw [List.take_of_length_le (by omega)]
  · have h1 : (s.take 9).length = 9 := by simp; omega
    unfold okS
    rw [h1, decide_eq_false (by omega), decide_eq_false (by omega)]
    simp
theorem okS_take {s : List Int} (h : okS s = true) : s.take 9 = s := List.take_of_length_le (by have := (okS_out h).1; omega)
end Go.Proofs.Ytmjpnfapjcfejaa
