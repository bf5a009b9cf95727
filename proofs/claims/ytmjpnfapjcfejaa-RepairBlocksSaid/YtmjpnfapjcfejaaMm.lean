/- Contracts: results and their number. No condition. -/
import Derived.Test.YtmjpnfapjcfejaaMk
import Derived.Test.YtmjpnfapjcfejaaMl
namespace Go.Proofs.Ytmjpnfapjcfejaa
open Go Go.RowKit VC
set_option linter.unusedSimpArgs false
set_option linter.unusedVariables false

theorem runF_len {l b : List Atm} {ms : List Vals} (h : runF l b = some ms) (hb : 1 ≤ b.length) : ms.length ≤ 20000 := by
  obtain ⟨rfl, h2⟩ := runF_some.1 h
  have := h2 b.length hb (Nat.le_refl _)
  rwa [List.take_length] at this
theorem okQ_len {h : List Int} {b : List Atm} (hq : okQ h b = true) : 1 ≤ b.length ∧ b.length ≤ 5 ∧ h.length ≤ 4 := by
  simp only [okQ, Bool.and_eq_true, decide_eq_true_eq] at hq
  exact ⟨hq.1.1.1.1, hq.1.1.1.2, hq.1.1.2⟩
theorem okQ_head {h : List Int} {b : List Atm} (hq : okQ h b = true) : ∀ x ∈ h, 0 ≤ x ∧ x ≤ 7 := by
  simp only [okQ, Bool.and_eq_true, List.all_eq_true] at hq
  intro x hx
  have := hq.2 x hx
  simp only [okH, Bool.and_eq_true, decide_eq_true_eq] at this
  exact this.1
/-- Matches, and why there are none to be had. -/
def askO (h : List Int) (b l : List Atm) : Int × List Vals := if okQ h b && okFs l then (match runF l b with | some ms => (0, ms) | none => (3, [])) else (2, [])
def resO (h : List Int) (b l : List Atm) : Int × List (List Int) := if okQ h b && okFs l then (match runF l b with | some ms => (0, rowsOf h ms) | none => (3, [])) else (2, [])
theorem SlR.nil {α : Type} {f : α → List Value} (w : World) : SlR f w (.slice none 0 0) [] := SlC.nil w
/-- A row, a slice of the call's own that is newer than out's array. -/
theorem elx_row {T : Nat → Prop} {w : World} {B : Nat} {v out : Value} {xs : List Int} (ho : OwnI w B v xs) (hT : ∀ b, T b → b < B) (hout : ∀ b, out.ownBlock = some b → b < B) : ElX T 1 repI out w ([v], xs) := by
  refine ⟨rfl, ?_, fun w' hf => ⟨v, rfl, (Own.fr ho hf fun k hk e => ?_).slI⟩⟩
  · intro u hu
    simp at hu
    subst hu
    exact (Own.one ho).2
  · have h2 := (Own.lt ho hk).1
    rcases e with e | e
    · have := hT k e; omega
    · have h1 := hout k e.symm
      omega
/-- Rows of the call's own: they read as long as nothing turns but what was there before. -/
abbrev OwnRs (B : Nat) (w : World) (v : Value) (L : List (List Int)) : Prop := OwnX (fun b => b < B) 1 repI w B 22 v L
end Go.Proofs.Ytmjpnfapjcfejaa
