/- Contracts: rows of ints are sorted by the library, and put together where neighbours are equal. No condition. -/
import Derived.Test.YtmjpnfapjcfejaaDoorMj
namespace Go.Proofs.YtmjpnfapjcfejaaDoor
open Go Go.RowKit VC Go.Sort Go.Shelf
set_option linter.unusedSimpArgs false
set_option linter.unusedVariables false

theorem flat_set1 {α : Type} {f : α → List Value} {xs : List α} {i : Nat} {y : α} {u : Value} (h : ∀ x ∈ xs, (f x).length = 1) (hi : i < xs.length) (hy : f y = [u]) : (xs.set i y).flatMap f = (xs.flatMap f).set i u := by
  have hl : (xs.flatMap f).length = xs.length * 1 := flat_len' h
  rw [flat_set h hi (by rw [hy]; rfl), hy, List.set_eq_take_append_cons_drop, if_pos (by omega)]
  simp
/-- What holds between the rounds of CompactFunc, once two neighbours were equal: k kept, the rest from place k on as it was. -/
structure CpL (T : Nat → Prop) (w : World) (B g n cap : Nat) (l : List (List Int)) (ps : List (List Value × List Int)) (k j : Nat) (w' : World) (qs : List (List Value × List Int)) : Prop where
  len : qs.length = n
  kept : (qs.take k).map Prod.snd = dd (l.take j)
  rest : ∀ i, k ≤ i → qs[i]? = ps[i]?
  el : ∀ q ∈ qs, ElX T 1 repI (.slice (some ⟨g, 0, none⟩) n cap) w' q
  own : Own w' B 22 1 (.slice (some ⟨g, 0, none⟩) n cap) n (qs.flatMap Prod.fst)
  fr : Fr (fun b => b = g) w w'
theorem rec_al {w : World} {B g n cap : Nat} {qs : List (List Value × List Int)} (hl : ∀ q ∈ qs, q.1.length = 1) (ho : Own w B 22 1 (.slice (some ⟨g, 0, none⟩) n cap) n (qs.flatMap Prod.fst)) {i : Nat} (hi : i < qs.length) : ∀ (j : Nat) (u : Value), (qs[i].1)[j]? = some u → w.cell? ⟨g, i * 1 + j, none⟩ = some u := by
  intro j u hj
  have hjk : j < 1 := by
    have h1 := (List.getElem?_eq_some_iff.1 hj).1
    have h2 := hl _ (List.getElem_mem hi)
    omega
  have hc := World.ownsRow.cells (g := g) ho rfl (i * 1 + j) u (by rw [flat_get' hl hi hjk]; exact hj)
  rwa [Addr.add0] at hc
theorem put_map {α : Type} [Inhabited α] (enc : α → Value) (w : World) (g : Nat) (d : Array α) : putRow enc w g 0 d = putRow id w g 0 (d.map enc) := by
  have : ∀ c : Array Value, putCells enc 0 d c = putCells id 0 (d.map enc) c := fun c => by
    unfold putCells
    apply Array.ext
    · simp
    · intro i h1 h2
      simp only [Array.getElem_mapIdx, Array.size_map]
      split
      · rename_i h
        have hi : i - 0 < d.size := by omega
        rw [getElem!_pos d _ hi, getElem!_pos (d.map enc) _ (by simpa using hi)]
        simp
      · rfl
  unfold putRow
  congr 1
  funext c
  exact this c
/-! ## Sorted and put together: each row once -/
theorem ddpL_sorted : ∀ {r : List (List Int)} {y : List Int}, (y :: r).Pairwise (fun a b => cmpL a b ≤ 0) → (y :: ddp y r).Pairwise (fun a b => cmpL a b < 0)
  | [], y, _ => by simp [ddp]
  | x :: r, y, h => by
    obtain ⟨h1, h2⟩ := List.pairwise_cons.1 h
    have ih := ddpL_sorted h2
    rw [ddp]
    split
    · rename_i e
      subst e; exact ih
    · rename_i hne
      have hyx : cmpL y x < 0 := by
        have := h1 x (List.mem_cons_self ..)
        have : cmpL y x ≠ 0 := fun e => hne (cmpL_zero.1 e).symm
        omega
      refine List.pairwise_cons.2 ⟨fun z hz => ?_, ih⟩
      rcases List.mem_cons.1 hz with rfl | hz
      · exact hyx
      · exact cmpL_lt_trans hyx ((List.pairwise_cons.1 ih).1 z hz)
theorem ddL_srt {l l' : List (List Int)} (hp : l'.Perm l) (h : l'.Pairwise (fun a b => cmpL a b ≤ 0)) : dd l' = srtL l := by
  refine srt_eq key_id ?_ fun a => mem_dd.trans hp.mem_iff
  cases l' with
  | nil => exact List.Pairwise.nil
  | cons a r => exact ddpL_sorted h
end Go.Proofs.YtmjpnfapjcfejaaDoor
