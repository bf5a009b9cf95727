/- Rising lists in order. Of no program. No condition. -/
import Derived.Test.YtjkphmbjdleppaaGreatNi
namespace Go.Proofs.YtjkphmbjdleppaaGreat
open Go Go.RowKit VC
set_option linter.unusedSimpArgs false
set_option linter.unusedVariables false

/-- All rising lists of k of the numbers from a to b - 1, in order. -/
def chosenL (b : Nat) : Nat → Nat → List (List Nat)
  | 0, _ => [[]]
  | k + 1, a => ((List.range (b - a)).map fun i => a + i).flatMap fun x => (chosenL b k (x + 1)).map (x :: ·)
theorem chosen_mem (b : Nat) : ∀ {k a : Nat} {l : List Nat}, l ∈ chosenL b k a ↔ l.length = k ∧ l.Pairwise (· < ·) ∧ ∀ x ∈ l, a ≤ x ∧ x < b
  | 0, a, l => by
    rw [chosenL, List.mem_singleton]
    constructor
    · rintro rfl
      simp
    · rintro ⟨h, -⟩
      exact List.length_eq_zero_iff.1 h
  | k + 1, a, l => by
    rw [chosenL, List.mem_flatMap]
    constructor
    · rintro ⟨x, hx, hl⟩
      obtain ⟨i, hi, rfl⟩ := List.mem_map.1 hx
      have hi := List.mem_range.1 hi
      obtain ⟨m, hm, rfl⟩ := List.mem_map.1 hl
      obtain ⟨h1, h2, h3⟩ := (chosen_mem b).1 hm
      refine ⟨by simp [h1], List.pairwise_cons.2 ⟨fun y hy => by have := h3 y hy; omega, h2⟩, fun y hy => ?_⟩
      rcases List.mem_cons.1 hy with rfl | hy
      · omega
      · have := h3 y hy
        omega
    · rintro ⟨h1, h2, h3⟩
      cases l with
      | nil => simp at h1
      | cons x m =>
        have hx := h3 x (List.mem_cons_self ..)
        refine ⟨x, List.mem_map.2 ⟨x - a, List.mem_range.2 (by omega), by omega⟩, List.mem_map.2 ⟨m, (chosen_mem b).2 ⟨by simpa using h1, (List.pairwise_cons.1 h2).2, fun y hy => ?_⟩, rfl⟩⟩
        have := (List.pairwise_cons.1 h2).1 y hy
        have := h3 y (List.mem_cons_of_mem _ hy)
        omega
theorem cmpL_cons_lt {x y : Nat} {l m : List Nat} (h : x < y) : cmpL (intL (x :: l)) (intL (y :: m)) < 0 := by
  have : cmpI (x : Int) (y : Int) = -1 := by
    unfold cmpI
    rw [if_pos (by omega)]
  show cmpL ((x : Int) :: intL l) ((y : Int) :: intL m) < 0
  rw [cmpL, this, if_neg (by decide)]
  decide
theorem cmpL_cons_eq {x : Nat} {l m : List Nat} : cmpL (intL (x :: l)) (intL (x :: m)) = cmpL (intL l) (intL m) := cmpL_pre [(x : Int)] (intL l) (intL m)
theorem chosen_sorted (b : Nat) : ∀ (k a : Nat), (chosenL b k a).Pairwise fun l m => cmpL (intL l) (intL m) < 0
  | 0, a => by rw [chosenL]; exact List.pairwise_singleton _ _
  | k + 1, a => by
    rw [chosenL, List.pairwise_flatMap]
    refine ⟨fun x _ => ?_, ?_⟩
    · rw [List.pairwise_map]
      refine (chosen_sorted b k (x + 1)).imp fun h => ?_
      rw [cmpL_cons_eq]
      exact h
    · rw [List.pairwise_map]
      refine List.pairwise_lt_range.imp fun {i j} hij x hx y hy => ?_
      obtain ⟨m, -, rfl⟩ := List.mem_map.1 hx
      obtain ⟨m', -, rfl⟩ := List.mem_map.1 hy
      exact cmpL_cons_lt (by omega)
theorem rising_sub {n : Nat} {l : List Nat} (hp : l.Pairwise (· < ·)) (hb : ∀ x ∈ l, x < n) : l.Sublist (List.range n) := by
  have conv : ∀ {m : List Nat}, m.Pairwise (· < ·) → StrK (fun i : Nat => [(i : Int)]) m := fun hm => hm.imp fun {x y} h => by
    have := cmpL_cons_lt (l := []) (m := []) h
    exact this
  have e : l = (List.range n).filter (fun i => decide (i ∈ l)) := str_uniq (key := fun i : Nat => [(i : Int)]) (conv hp) (conv (List.pairwise_lt_range.filter _)) fun x => by
    rw [List.mem_filter, List.mem_range]
    exact ⟨fun h => ⟨hb x h, by simpa using h⟩, fun h => by simpa using h.2⟩
  have := List.filter_sublist (p := fun i => decide (i ∈ l)) (l := List.range n)
  rwa [← e] at this
theorem sub_rising {n : Nat} {l : List Nat} (h : l.Sublist (List.range n)) : l.Pairwise (· < ·) ∧ ∀ x ∈ l, x < n := ⟨List.pairwise_lt_range.sublist h, fun x hx => List.mem_range.1 (h.subset hx)⟩
theorem chosen_sub {n k : Nat} {l : List Nat} : l ∈ chosenL n k 0 ↔ l.length = k ∧ l.Sublist (List.range n) := by
  rw [chosen_mem]
  constructor
  · rintro ⟨h1, h2, h3⟩
    exact ⟨h1, rising_sub h2 fun x hx => (h3 x hx).2⟩
  · rintro ⟨h1, h2⟩
    have := sub_rising h2
    exact ⟨h1, this.1, fun x hx => ⟨by omega, this.2 x hx⟩⟩
/-- What the reference's Core returns. -/
def FirstG (h : List Int) (b : List Atm) (l : List Nat) : Prop := Good h b l ∧ l.Sublist (List.range b.length) ∧ ∀ m : List Nat, m.Sublist (List.range b.length) → Good h b m → ¬ SLt m l
theorem FirstG.uniq {h : List Int} {b : List Atm} {c l : List Nat} (hB : BestO h b (2 ^ b.length) (some c)) (hF : FirstG h b l) : c = l := by
  have hcs : c.Sublist (List.range b.length) := by
    obtain ⟨s, -, -, hs⟩ := hB.2.1
    rw [hs]
    exact setL_sub _ _
  exact SLt.total (hF.2.2 c hcs hB.1) (core_le hB hF.2.1 hF.1)
theorem first_at {h : List Int} {b : List Atm} {k t : Nat} (hk : ∀ m : List Nat, m.Sublist (List.range b.length) → m.length < k → ¬ Good h b m) (ht : t < (chosenL b.length k 0).length) (hno : ∀ j (hj : j < (chosenL b.length k 0).length), j < t → ¬ Good h b (chosenL b.length k 0)[j]) (hg : Good h b (chosenL b.length k 0)[t]) : FirstG h b (chosenL b.length k 0)[t] := by
  obtain ⟨h1, h2⟩ := chosen_sub.1 (List.getElem_mem ht)
  refine ⟨hg, h2, fun m hm hgm hlt => ?_⟩
  rcases hlt with hlt | ⟨hlt, hc⟩
  · exact hk m hm (by omega) hgm
  · obtain ⟨j, hj, rfl⟩ := List.getElem_of_mem (chosen_sub.2 ⟨hlt.trans h1, hm⟩)
    rcases Nat.lt_trichotomy j t with h3 | h3 | h3
    · exact hno j hj h3 hgm
    · subst h3
      rw [cmpL_self] at hc
      omega
    · have := List.pairwise_iff_getElem.1 (chosen_sorted b.length k 0) t j ht hj h3
      have := cmpL_swap (intL (chosenL b.length k 0)[t]) (intL (chosenL b.length k 0)[j])
      omega
end Go.Proofs.YtjkphmbjdleppaaGreat
