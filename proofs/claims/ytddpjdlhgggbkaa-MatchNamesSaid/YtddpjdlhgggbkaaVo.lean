/- An array of the call's own that is written in place; make. No condition. -/
import Derived.Test.YtddpjdlhgggbkaaVm
import Derived.Laws.MakeOwn
namespace Go.Proofs.Ytddpjdlhgggbkaa.VC
open Go Go.RowKit
set_option linter.unusedSimpArgs false
set_option linter.unusedVariables false

theorem Own.set {w w' : World} {B : Nat} {e : TypeId} {g n cap i : Nat} {cs : List Value} {u : Value} (h : Own w B e 1 (.slice (some ⟨g, 0, none⟩) n cap) n cs) (hi : i < n) (hw : w' = w.setCell ⟨g, i, none⟩ u) : Own w' B e 1 (.slice (some ⟨g, 0, none⟩) n cap) n (cs.set i u) := by
  subst hw
  refine ⟨by simpa using h.1, .inr ?_⟩
  rcases h.2 with ⟨h1, _⟩ | ⟨g', cap', cur, he, hb, hgg, hnc, hcm, hcs, htake⟩
  · cases h1
  · simp only [Value.slice.injEq, Option.some.injEq, Addr.mk.injEq, and_true, true_and] at he
    obtain ⟨rfl, rfl⟩ := he
    refine ⟨g, cap, cur.setIfInBounds i u, rfl, hb, ?_, hnc, hcm, by simpa using hcs, ?_⟩
    · simp [World.setCell, Array.getElem?_modify, hgg]
    · rw [Array.toList_setIfInBounds, List.take_set, htake]
theorem Own.wr {w : World} {B : Nat} {e : TypeId} {g n cap i : Nat} {cs : List Value} (h : Own w B e 1 (.slice (some ⟨g, 0, none⟩) n cap) n cs) (hi : i < n) : (∃ old, w.cell? ⟨g, i, none⟩ = some old) ∧ w.frozen? ⟨g, i, none⟩ = false := by
  rcases h.2 with ⟨h1, _⟩ | ⟨g', cap', cur, he, hb, hgg, hnc, hcm, hcs, htake⟩
  · cases h1
  · simp only [Value.slice.injEq, Option.some.injEq, Addr.mk.injEq, and_true, true_and] at he
    obtain ⟨rfl, rfl⟩ := he
    have hl : i < cur.size := by omega
    refine ⟨⟨cur[i], ?_⟩, ?_⟩
    · simp [World.cell?, hgg, hl]
    · simp [World.frozen?, hgg]
theorem made_toList (z : Value) (n : Nat) : (madeCells #[z] n).toList = List.replicate n z := by
  apply List.ext_getElem
  · simp [madeCells]
  · intro i h1 h2
    simp [madeCells, Nat.mod_one]
/-- make([]T, n). -/
theorem Own.made {w w' : World} {B : Nat} {e : TypeId} {n m : Nat} {z : Value} (hw : w' = w.alloc (.cells (madeCells #[z] m) e)) (hm : m = n) (hB : B ≤ w.heap.size) (hn : n ≤ 9223372036854775807) : Own w' B e 1 (.slice (some ⟨w.heap.size, 0, none⟩) n n) n (List.replicate n z) := by
  subst hm
  have := Own.lit (n := m) (sz := 1) hw hB hn (by simp [madeCells])
  rwa [made_toList] at this
end Go.Proofs.Ytddpjdlhgggbkaa.VC
