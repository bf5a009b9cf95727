/- The order of facts, and the function that compares them: what it leaves behind is told exactly, as sorting asks. No condition. -/
import Derived.Test.YtmjpnfapjcfejaaMd
import Derived.Shelf.SlSortCmp.Insertion
namespace Go.Proofs.Ytmjpnfapjcfejaa
open Go Go.RowKit VC
set_option linter.unusedSimpArgs false
set_option linter.unusedVariables false

/-! ## The order -/
theorem cmpI_zero {x y : Int} : cmpI x y = 0 ↔ x = y := by unfold cmpI; split <;> (try split) <;> omega
theorem cmpI_swap (x y : Int) : cmpI y x = - cmpI x y := by unfold cmpI; split <;> split <;> (try split) <;> omega
theorem cmpL_zero : ∀ {xs ys : List Int}, cmpL xs ys = 0 ↔ xs = ys
  | [], [] => by simp [cmpL]
  | [], _ :: _ => by simp [cmpL]
  | _ :: _, [] => by simp [cmpL]
  | x :: r, y :: s => by
    rw [cmpL]
    by_cases h : cmpI x y = 0
    · rw [if_pos h, cmpL_zero, cmpI_zero.1 h]; simp
    · rw [if_neg h]
      have : ¬ x = y := fun e => h (cmpI_zero.2 e)
      simp [h, this]
theorem cmpL_swap : ∀ (xs ys : List Int), cmpL ys xs = - cmpL xs ys
  | [], [] => rfl
  | [], _ :: _ => rfl
  | _ :: _, [] => rfl
  | x :: r, y :: s => by
    rw [cmpL, cmpL, cmpI_swap x y]
    by_cases h : cmpI x y = 0
    · rw [if_pos h, if_pos (by omega), cmpL_swap r s]
    · rw [if_neg h, if_neg (by omega)]
theorem cmpI_trans {x y z : Int} (h1 : cmpI x y ≤ 0) (h2 : cmpI y z ≤ 0) : cmpI x z ≤ 0 ∧ (cmpI x z = 0 → cmpI x y = 0 ∧ cmpI y z = 0) := by
  unfold cmpI at *
  refine ⟨?_, ?_⟩
  · repeat' split
    all_goals (try split at h1) <;> (try split at h2) <;> (try split at h1) <;> (try split at h2) <;> omega
  · repeat' split
    all_goals (try split at h1) <;> (try split at h2) <;> (try split at h1) <;> (try split at h2) <;> omega
theorem cmpL_trans : ∀ {xs ys zs : List Int}, cmpL xs ys ≤ 0 → cmpL ys zs ≤ 0 → cmpL xs zs ≤ 0
  | [], [], zs, _, h2 => h2
  | [], _ :: _, [], _, h2 => by simp [cmpL] at h2
  | [], _ :: _, _ :: _, _, _ => by simp [cmpL]
  | _ :: _, [], _, h1, _ => by simp [cmpL] at h1
  | _ :: _, _ :: _, [], _, h2 => by simp [cmpL] at h2
  | x :: r, y :: s, z :: t, h1, h2 => by
    rw [cmpL] at *
    have hx : cmpI x y ≤ 0 := by
      by_cases h : cmpI x y = 0
      · omega
      · rw [if_neg h] at h1; exact h1
    have hy : cmpI y z ≤ 0 := by
      by_cases h : cmpI y z = 0
      · omega
      · rw [if_neg h] at h2; exact h2
    obtain ⟨h3, h4⟩ := cmpI_trans hx hy
    by_cases h : cmpI x z = 0
    · obtain ⟨h5, h6⟩ := h4 h
      rw [if_pos h5] at h1
      rw [if_pos h6] at h2
      rw [if_pos h]
      exact cmpL_trans h1 h2
    · rw [if_neg h]; exact h3
theorem swoL {α : Type} (key : α → List Int) : Go.Sort.SWO (ltOf fun a b => cmpL (key a) (key b)) := by
  refine ⟨fun x => ?_, fun x y z h1 h2 => ?_, fun x y z h1 h2 => ?_⟩
  · have : cmpL (key x) (key x) = 0 := cmpL_zero.2 rfl
    simp [ltOf, this]
  · simp only [ltOf, decide_eq_true_eq] at *
    have h3 := cmpL_trans (xs := key x) (ys := key y) (zs := key z) (by omega) (by omega)
    refine Classical.byContradiction fun hn => ?_
    have h4 : cmpL (key x) (key z) = 0 := by omega
    rw [cmpL_zero.1 h4] at h1
    have := cmpL_swap (key z) (key y)
    omega
  · simp only [ltOf, decide_eq_false_iff_not] at *
    have e1 := cmpL_swap (key x) (key y)
    have e2 := cmpL_swap (key y) (key z)
    have e3 := cmpL_swap (key x) (key z)
    have h3 := cmpL_trans (xs := key z) (ys := key y) (zs := key x) (by omega) (by omega)
    omega
def keyA (a : Atm) : List Int := a.1 :: a.2
theorem keyA_inj {a b : Atm} (h : keyA a = keyA b) : a = b := by
  obtain ⟨r, l⟩ := a
  obtain ⟨s, m⟩ := b
  simp [keyA] at h
  rw [h.1, h.2]
def cmpA (a b : Atm) : Int := cmpL (keyA a) (keyA b)
theorem cmpA_zero {a b : Atm} : cmpA a b = 0 ↔ a = b := cmpL_zero.trans ⟨keyA_inj, fun h => by rw [h]⟩
/-! ## What is left behind -/
/-- It returns v; nothing that was there has turned, and no draw is taken back. -/
def RetD (w : World) (v : Value) : Ending → World → Prop := fun e w' => e = .returned v ∧ Grow w w' ∧ w.drawn ≤ w'.drawn
theorem growD {w w' : World} (h : Grow w w') (hd : w.drawn ≤ w'.drawn) : ∃ q os, w' = Go.Sort.grow (w.drewN q) os := by
  refine ⟨w'.drawn - w.drawn, w'.heap.extract w.heap.size w'.heap.size, ?_⟩
  have hh : w'.heap = w.heap ++ w'.heap.extract w.heap.size w'.heap.size := by
    apply Array.ext_getElem?
    intro i
    rw [Array.getElem?_append]
    split
    · rename_i hi; exact h.block i hi
    · rename_i hi
      rw [Array.getElem?_extract]
      have hs := h.size
      split
      · rename_i h2; congr 1; omega
      · rename_i h2
        exact Array.getElem?_eq_none (by simp at h2; omega)
  have e1 := h.os
  have e2 := h.tape
  have e3 := h.output
  cases w with
  | mk heap tape drawn os output =>
    cases w' with
    | mk heap' tape' drawn' os' output' =>
      dsimp only at hh e1 e2 e3 hd
      subst e1; subst e2; subst e3
      simp only [Go.Sort.grow, World.drewN]
      congr 1
      omega
end Go.Proofs.Ytmjpnfapjcfejaa
