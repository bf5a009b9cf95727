/- An own slice behind the library's sort. No condition. -/
import Derived.Test.YtddpjdlhgggbkaaVt
import Derived.Shelf.SlSortCmp.NoneTotal
namespace Go.Proofs.Ytddpjdlhgggbkaa.VC
open Go Go.RowKit Go.Sort
set_option linter.unusedSimpArgs false
set_option linter.unusedVariables false

theorem flatK_eq {α : Type} [Inhabited α] {enc : α → List Value} {k : Nat} (hk : ∀ x, (enc x).length = k) (h0 : 0 < k) (d : Array α) : flatK enc k d = (d.toList.flatMap enc).toArray := by
  have hl : (d.toList.flatMap enc).length = d.size * k := by rw [flat_len hk]; simp
  apply Array.ext_getElem?
  intro t
  by_cases ht : t < d.size * k
  · have hi : t / k < d.toList.length := by simpa using Nat.div_lt_of_lt_mul (by rwa [Nat.mul_comm] at ht)
    have hm := Nat.mod_lt t h0
    have e : t / k * k + t % k = t := by rw [Nat.mul_comm]; exact Nat.div_add_mod t k
    have h1 := flat_get (f := enc) hk hi hm
    rw [e] at h1
    have hd : t / k < d.size := by simpa using hi
    have hme : t % k < (enc d[t / k]).length := by rw [hk]; exact hm
    simp only [List.getElem?_toArray, h1, flatK]
    simp [ht, hd, hme]
  · rw [Array.getElem?_eq_none (by simp; omega), List.getElem?_toArray, List.getElem?_eq_none (by omega)]
theorem heap_put {w : World} {g n : Nat} {os : Array Obj} {cur : Array Value} {e : TypeId} {fr : Nat × Nat} (d : Array Value) (hb : w.heap[g]? = some (.cells cur e fr)) :
    (grow (putRow id (Sort.ahead w n) g 0 d) os).heap[g]? = some (.cells (putCells id 0 d cur) e fr) := by
  have hg : g < w.heap.size := (Array.getElem?_eq_some_iff.1 hb).1
  rw [heap_grow_old _ _ (by simpa using hg)]
  simp [putRow, mapBlock, Sort.ahead, Array.getElem?_modify, hb, onCells]
theorem put_fr {w : World} {g n : Nat} {os : Array Obj} (d : Array Value) : Fr (fun k => k = g) w (grow (putRow id (Sort.ahead w n) g 0 d) os) := by
  refine ⟨rfl, rfl, rfl, by simp, fun k hk hne => ?_⟩
  rw [heap_grow_old _ _ (by simpa using hk)]
  have : g ≠ k := fun e => hne e.symm
  simp [putRow, mapBlock, Sort.ahead, Array.getElem?_modify, this]
theorem take_put (cur : Array Value) (ts : List Value) (h : ts.length ≤ cur.size) : (putCells id 0 ts.toArray cur).toList.take ts.length = ts := by
  apply List.ext_getElem?
  intro j
  by_cases hj : j < ts.length
  · rw [List.getElem?_take_of_lt hj, Array.getElem?_toList]
    simp [putCells, hj, show j < cur.size by omega]
  · rw [List.getElem?_take_eq_none (by omega), List.getElem?_eq_none (by omega)]
theorem Own.behind {w : World} {B : Nat} {e : TypeId} {sz g n cap m : Nat} {cs ts : List Value} {os : Array Obj} (h : Own w B e sz (.slice (some ⟨g, 0, none⟩) n cap) n cs) (hl : ts.length = n * sz) :
    Own (Go.Sort.grow (putRow id (Sort.ahead w m) g 0 ts.toArray) os) B e sz (.slice (some ⟨g, 0, none⟩) n cap) n ts := by
  rcases h.2 with ⟨h2, _⟩ | ⟨g', cap', cur, he, hb, hgg, hnc, hcm, hcs, htake⟩
  · cases h2
  · simp only [Value.slice.injEq, Option.some.injEq, Addr.mk.injEq, and_true, true_and] at he
    obtain ⟨rfl, rfl⟩ := he
    have hle : n * sz ≤ cap * sz := Nat.mul_le_mul_right _ hnc
    exact ⟨hl, .inr ⟨g, cap, _, rfl, hb, heap_put _ hgg, hnc, hcm, by simpa [putCells] using hcs, by rw [← hl]; exact take_put cur ts (by omega)⟩⟩
theorem Own.holds {w : World} {B : Nat} {e : TypeId} {sz g n cap : Nat} {cs : List Value} (h : Own w B e sz (.slice (some ⟨g, 0, none⟩) n cap) n cs) : Holds id w g 0 cs.toArray := by
  intro j hj
  have hj : j < cs.length := by simpa using hj
  refine ⟨?_, ?_⟩
  · have := World.ownsRow.cells (g := g) h rfl j cs[j] (by simp [hj])
    rw [Addr.add0] at this
    rw [Nat.zero_add, this]
    simp [hj]
  · rcases h.2 with ⟨h2, _⟩ | ⟨g', cap', cur, he, hb, hgg, _⟩
    · cases h2
    · simp only [Value.slice.injEq, Option.some.injEq, Addr.mk.injEq, and_true, true_and] at he
      obtain ⟨rfl, rfl⟩ := he
      simp [World.frozen?, hgg]
end Go.Proofs.Ytddpjdlhgggbkaa.VC
