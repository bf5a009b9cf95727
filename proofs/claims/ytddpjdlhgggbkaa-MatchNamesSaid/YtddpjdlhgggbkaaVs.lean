/- Record variables: a record on the heap that is set as a whole or field by field. No condition. -/
import Derived.Test.YtddpjdlhgggbkaaVr
namespace Go.Proofs.Ytddpjdlhgggbkaa.VC
open Go Go.RowKit
set_option linter.unusedSimpArgs false
set_option linter.unusedVariables false

/-- The block b holds just these cells; they can be written. -/
def RecV (w : World) (b : Nat) (cs : List Value) : Prop := ∃ t, w.heap[b]? = some (.cells cs.toArray t (0, 0))
theorem add_block (a : Addr) (j : Nat) : (a.add j).block = a.block := by unfold Addr.add; split <;> rfl
section
variable {w w' : World} {b : Nat} {cs : List Value}
theorem RecV.lt (h : RecV w b cs) : b < w.heap.size := by obtain ⟨t, h⟩ := h; exact (Array.getElem?_eq_some_iff.1 h).1
theorem RecV.new {zs : Array Value} {t : TypeId} (hw : w' = w.alloc (.cells zs t)) : RecV w' w.heap.size zs.toList := ⟨t, by subst hw; simpa using heap_alloc_new w _⟩
theorem RecV.cell (h : RecV w b cs) {j : Nat} {u : Value} (hj : cs[j]? = some u) : w.cell? (Addr.add ⟨b, 0, none⟩ j) = some u := by
  obtain ⟨t, h⟩ := h
  exact row_cells h j u (by simpa using hj)
theorem RecV.all (h : RecV w b cs) : ∀ (j : Nat) (u : Value), cs[j]? = some u → w.cell? (Addr.add ⟨b, 0, none⟩ j) = some u := fun j u hj => h.cell hj
theorem RecV.free (h : RecV w b cs) (j : Nat) : w.frozen? (Addr.add ⟨b, 0, none⟩ j) = false := by
  obtain ⟨t, h⟩ := h
  rw [Addr.add0]
  simp [World.frozen?, h]
theorem RecV.fr {S : Nat → Prop} (h : RecV w b cs) (hf : Fr S w w') (hs : ¬ S b) : RecV w' b cs := by
  have hl := h.lt
  obtain ⟨t, h⟩ := h
  exact ⟨t, (hf.block b hl hs).trans h⟩
theorem RecV.grow (h : RecV w b cs) (hf : Grow w w') : RecV w' b cs := h.fr (Fr.of_grow (S := fun _ => False) hf) id
theorem RecV.set (h : RecV w b cs) {j : Nat} {u : Value} (hw : w' = w.setCell (Addr.add ⟨b, 0, none⟩ j) u) : RecV w' b (cs.set j u) := by
  obtain ⟨t, h⟩ := h
  subst hw
  rw [Addr.add0]
  exact ⟨t, by simp [World.setCell, Array.getElem?_modify, h]⟩
theorem RecV.set_fr {j : Nat} {u : Value} (hw : w' = w.setCell (Addr.add ⟨b, 0, none⟩ j) u) : Fr (fun k => k = b) w w' := by
  have := VC.set_fr hw
  rwa [add_block] at this
/-- A record variable is set as a whole. -/
theorem RecV.store {P : Program} {old cs : List Value} (h : RecV w b old) (hl : cs.length = old.length) (h1 : ∀ v ∈ cs, v.oneCell' = true) {K : World → Prop} (hk : ∀ w2, Fr (fun k => k = b) w w2 → RecV w2 b cs → K w2) :
    ∃ cs' : Array Value, (Value.agg cs.toArray) = Value.agg cs' ∧ cs'.size = old.length ∧ ∃ w2 : World, (storeCells ⟨b, 0, none⟩ cs'.toList).run P w = .ok () w2 ∧ K w2 := by
  obtain ⟨t, h⟩ := h
  obtain ⟨w2, hr, hf, hrow⟩ := store_row (P := P) (cs := cs.toArray) h (by simpa using hl) (by simpa using h1)
  exact ⟨_, rfl, by simpa using hl, w2, hr, hk w2 hf ⟨t, hrow⟩⟩
/-- A new one is laid and set. -/
theorem RecV.init {P : Program} {w1 : World} {zs : Array Value} {cs : List Value} {t : TypeId} (hw : w1 = w.alloc (.cells zs t)) (hl : cs.length = zs.size) (h1 : ∀ v ∈ cs, v.oneCell' = true) {K : World → Prop}
    (hk : ∀ w2, Grow w w2 → w.heap.size < w2.heap.size → RecV w2 w.heap.size cs → K w2) :
    ∃ cs' : Array Value, (Value.agg cs.toArray) = Value.agg cs' ∧ cs'.size = zs.size ∧ ∃ w2 : World, (storeCells ⟨w.heap.size, 0, none⟩ cs'.toList).run P w1 = .ok () w2 ∧ K w2 := by
  have := RecV.store (P := P) (RecV.new hw) (cs := cs) (by simpa using hl) h1 (K := K) fun w2 hf hr => hk w2 ((alloc_grow hw).fr hf fun i hi e => by omega) (by have := hf.size; have := alloc_size hw; omega) hr
  simpa using this
end
end Go.Proofs.Ytddpjdlhgggbkaa.VC
