/- What reads on where a block that holds nothing but slices turns. No condition. -/
import Derived.Test.YtjkphmbjdleppaaMa
import Derived.Test.YtjkphmbjdleppaaVs
namespace Go.Proofs.Ytjkphmbjdleppaa
open Go Go.RowKit VC
set_option linter.unusedSimpArgs false
set_option linter.unusedVariables false

/-- The block O holds nothing but slices. -/
structure SlB (w : World) (O : Nat) : Prop where
  ex : ∃ cs t fr, w.heap[O]? = some (.cells cs t fr) ∧ ∀ u ∈ cs.toList, ∃ a n c, u = Value.slice a n c
theorem SlB.no {w : World} {O : Nat} (h : SlB w O) {a : Addr} {k : IntKind} {z : Int} (hc : w.cell? a = some (.int k z)) : a.block ≠ O := by
  intro e
  obtain ⟨cs, t, fr, h1, h2⟩ := h.ex
  unfold World.cell? at hc
  rw [e, h1] at hc
  simp only at hc
  split at hc
  · cases hc
  · obtain ⟨x, n, c, e2⟩ := h2 (.int k z) (by
      obtain ⟨hj, he⟩ := Array.getElem?_eq_some_iff.1 hc
      rw [← he]
      exact Array.mem_toList_iff.2 (Array.getElem_mem hj))
    cases e2
theorem SlB.of_rec {w : World} {O : Nat} {cs : List Value} (h : RecV w O cs) (hc : ∀ u ∈ cs, ∃ a n c, u = Value.slice a n c) : SlB w O := by
  obtain ⟨t, h⟩ := h
  exact ⟨_, t, _, h, by simpa using hc⟩
theorem SlI.skip {w w' : World} {O : Nat} {v : Value} {xs : List Int} (hO : SlB w O) (h : SlI w v xs) (hf : Fr (fun k => k = O) w w') : SlI w' v xs := by
  obtain ⟨a, c, rfl, h1, h2, h3, h4⟩ := h.ex
  cases xs with
  | nil => exact ⟨a, c, rfl, h1, h2, h3, fun j u hj => by simp at hj⟩
  | cons x r =>
    obtain ⟨b, rfl, hb⟩ := h4 0 (encI x) rfl
    have hne := hO.no hb
    rw [add_block] at hne
    refine ⟨some b, c, rfl, h1, h2, h3, fun j u hj => ?_⟩
    obtain ⟨b', e, hc⟩ := h4 j u hj
    cases e
    exact ⟨b, rfl, hf.cell hc (by rw [add_block]; exact hne)⟩
theorem SlA.skip {w w' : World} {O : Nat} {v : Value} {l : List (Int × List Int)} (hO : SlB w O) (h : SlA w v l) (hf : Fr (fun k => k = O) w w') : SlA w' v l := by
  obtain ⟨a, c, rfl, h1, h2, h3, h4⟩ := h.ex
  refine ⟨a, c, rfl, h1, h2, h3, fun i hi => ?_⟩
  obtain ⟨b, cs, e1, e2, e3, u, rfl, hu⟩ := h4 i hi
  have hne := hO.no (e3 0 _ rfl)
  rw [add_block] at hne
  exact ⟨b, _, e1, e2, fun t y ht => hf.cell (e3 t y ht) (by rw [add_block]; exact hne), u, rfl, SlI.skip hO hu hf⟩
end Go.Proofs.Ytjkphmbjdleppaa
