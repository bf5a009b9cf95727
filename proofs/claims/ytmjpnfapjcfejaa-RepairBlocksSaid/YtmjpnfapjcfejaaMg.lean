/- Contracts: facts are sorted by the library; once: facts in their order, each once. No condition. -/
import Derived.Test.YtmjpnfapjcfejaaMf
import Derived.Test.YtmjpnfapjcfejaaVw
import Derived.Test.YtmjpnfapjcfejaaSh
namespace Go.Proofs.Ytmjpnfapjcfejaa
open Go Go.RowKit VC Go.Sort Go.Shelf
set_option linter.unusedSimpArgs false
set_option linter.unusedVariables false

theorem agg_fact (w : World) : (isAgg 58).run Try.prog w = .ok true w := by
  have h : (Try.prog.underlying 58).isSome = true := by kernel_rfl
  have hm : (match Try.prog.underlying 58 with | some (.struct _) => true | _ => false) = true := by kernel_rfl
  obtain ⟨d, hd⟩ := Option.isSome_iff_exists.1 h
  rw [hd] at hm
  rw [isAgg_run hd]
  cases d <;> first | rfl | (simp at hm; done)
theorem size_fact (w : World) : (Go.sizeOf 58).run Try.prog w = .ok 2 w := by
  have h : Try.prog.cellsOf 58 = 2 := by kernel_rfl
  have := cellsOf_run (P := Try.prog) (t := 58) (by rw [h]; decide) w
  rwa [h] at this
/-! ## Each once -/
theorem cmpA_trans {a b c : Atm} (h1 : cmpA a b < 0) (h2 : cmpA b c < 0) : cmpA a c < 0 := by
  have := (swoL keyA).trans a b c (by simpa [ltOf, cmpA] using h1) (by simpa [ltOf, cmpA] using h2)
  simpa [ltOf, cmpA] using this
theorem cmpA_lt {a b : Atm} (h : cmpA a b ≤ 0) (hne : a ≠ b) : cmpA a b < 0 := by
  have : cmpA a b ≠ 0 := fun e => hne (cmpA_zero.1 e)
  omega
theorem mem_ddp {α : Type} [DecidableEq α] {z : α} : ∀ {r : List α} {y : α}, z ∈ y :: ddp y r ↔ z ∈ y :: r
  | [], y => by simp [ddp]
  | x :: r, y => by
    rw [ddp]
    split
    · rename_i e
      subst e
      have := mem_ddp (z := z) (r := r) (y := x)
      simp at this ⊢
      rw [this]
    · have := mem_ddp (z := z) (r := r) (y := x)
      simp only [List.mem_cons] at this ⊢
      rw [this]
theorem mem_dd {α : Type} [DecidableEq α] {z : α} {l : List α} : z ∈ dd l ↔ z ∈ l := by
  cases l with
  | nil => rfl
  | cons a r => exact mem_ddp
theorem ddp_sorted : ∀ {r : List Atm} {y : Atm}, (y :: r).Pairwise (fun a b => cmpA a b ≤ 0) → (y :: ddp y r).Pairwise (fun a b => cmpA a b < 0)
  | [], y, _ => by simp [ddp]
  | x :: r, y, h => by
    obtain ⟨h1, h2⟩ := List.pairwise_cons.1 h
    have ih := ddp_sorted h2
    rw [ddp]
    split
    · rename_i e
      subst e; exact ih
    · rename_i hne
      have hyx := cmpA_lt (h1 x (List.mem_cons_self ..)) (fun e => hne e.symm)
      refine List.pairwise_cons.2 ⟨fun z hz => ?_, ih⟩
      rcases List.mem_cons.1 hz with rfl | hz
      · exact hyx
      · exact cmpA_trans hyx ((List.pairwise_cons.1 ih).1 z hz)
theorem dd_sorted {l : List Atm} (h : l.Pairwise (fun a b => cmpA a b ≤ 0)) : (dd l).Pairwise (fun a b => cmpA a b < 0) := by
  cases l with
  | nil => exact List.Pairwise.nil
  | cons a r => exact ddp_sorted h
/-- Facts in their order, each once. -/
structure OnceL (l l' : List Atm) : Prop where
  inc : l'.Pairwise (fun a b => cmpA a b < 0)
  mem : ∀ a, a ∈ l' ↔ a ∈ l
  len : l'.length ≤ l.length
theorem dd_len {α : Type} [DecidableEq α] : ∀ (l : List α), (dd l).length ≤ l.length := by
  have : ∀ (r : List α) (y : α), (ddp y r).length ≤ r.length := by
    intro r
    induction r with
    | nil => intro y; simp [ddp]
    | cons x r ih =>
      intro y
      rw [ddp]
      have := ih x
      split <;> simp <;> omega
  intro l
  cases l with
  | nil => exact Nat.le_refl _
  | cons a r => have := this r a; simp [dd]; omega
end Go.Proofs.Ytmjpnfapjcfejaa
