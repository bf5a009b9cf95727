/- Record variables: a record on the heap that is set as a whole or field by field. No condition. -/
import Derived.Test.YtleiddajojgmmaaVr
import Derived.Shelf.SlSortCmp.NoneTotal
import Derived.MapKept
import Derived.WideKeyPair
import Derived.DeepKeys4
namespace Go.Proofs.Ytleiddajojgmmaa.VC
open Go Go.RowKit
set_option linter.unusedSimpArgs false
set_option linter.unusedVariables false

/-- The block b holds just these cells; they can be written. -/
def RecV (w : World) (b : Nat) (cs : List Value) : Prop := ∃ t, w.heap[b]? = some (.cells cs.toArray t (0, 0))
theorem add_block (a : Addr) (j : Nat) : (a.add j).block = a.block := by unfold Addr.add; split <;> rfl
section
variable {w w' : World} {b : Nat} {cs : List Value}
theorem RecV.lt (h : RecV w b cs) : b < w.heap.size := by obtain ⟨t, h⟩ := h; exact (Array.getElem?_eq_some_iff.1 h).1
theorem RecV.new {zs : Array Value} {t : TypeId} (hw : w' = w.alloc (.cells zs t)) : RecV w' w.heap.size zs.toList := ⟨t, by subst hw; simpa using heap_alloc_new w _⟩
theorem RecV.cell (h : RecV w b cs) {j : Nat} {u : Value} (hj : cs[j]? = some u) : w.cell? (Addr.add ⟨b, 0, none⟩ j) = some u := by
  obtain ⟨t, h⟩ := h
  exact row_cells h j u (by simpa using hj)
theorem RecV.all (h : RecV w b cs) : ∀ (j : Nat) (u : Value), cs[j]? = some u → w.cell? (Addr.add ⟨b, 0, none⟩ j) = some u := fun j u hj => h.cell hj
theorem RecV.free (h : RecV w b cs) (j : Nat) : w.frozen? (Addr.add ⟨b, 0, none⟩ j) = false := by
  obtain ⟨t, h⟩ := h
  rw [Addr.add0]
  simp [World.frozen?, h]
theorem RecV.fr {S : Nat → Prop} (h : RecV w b cs) (hf : Fr S w w') (hs : ¬ S b) : RecV w' b cs := by
  have hl := h.lt
  obtain ⟨t, h⟩ := h
  exact ⟨t, (hf.block b hl hs).trans h⟩
theorem RecV.grow (h : RecV w b cs) (hf : Grow w w') : RecV w' b cs := h.fr (Fr.of_grow (S := fun _ => False) hf) id
theorem RecV.set (h : RecV w b cs) {j : Nat} {u : Value} (hw : w' = w.setCell (Addr.add ⟨b, 0, none⟩ j) u) : RecV w' b (cs.set j u) := by
  obtain ⟨t, h⟩ := h
  subst hw
  rw [Addr.add0]
  exact ⟨t, by simp [World.setCell, Array.getElem?_modify, h]⟩
theorem RecV.set_fr {j : Nat} {u : Value} (hw : w' = w.setCell (Addr.add ⟨b, 0, none⟩ j) u) : Fr (fun k => k = b) w w' := by
  have := VC.set_fr hw
  rwa [add_block] at this
/-- A record variable is set as a whole. -/
theorem RecV.store {P : Program} {old cs : List Value} (h : RecV w b old) (hl : cs.length = old.length) (h1 : ∀ v ∈ cs, v.oneCell' = true) {K : World → Prop} (hk : ∀ w2, Fr (fun k => k = b) w w2 → RecV w2 b cs → K w2) :
    ∃ cs' : Array Value, (Value.agg cs.toArray) = Value.agg cs' ∧ cs'.size = old.length ∧ ∃ w2 : World, (storeCells ⟨b, 0, none⟩ cs'.toList).run P w = .ok () w2 ∧ K w2 := by
  obtain ⟨t, h⟩ := h
  obtain ⟨w2, hr, hf, hrow⟩ := store_row (P := P) (cs := cs.toArray) h (by simpa using hl) (by simpa using h1)
  exact ⟨_, rfl, by simpa using hl, w2, hr, hk w2 hf ⟨t, hrow⟩⟩
/-- A new one is laid and set. -/
theorem RecV.init {P : Program} {w1 : World} {zs : Array Value} {cs : List Value} {t : TypeId} (hw : w1 = w.alloc (.cells zs t)) (hl : cs.length = zs.size) (h1 : ∀ v ∈ cs, v.oneCell' = true) {K : World → Prop}
    (hk : ∀ w2, Grow w w2 → w.heap.size < w2.heap.size → RecV w2 w.heap.size cs → K w2) :
    ∃ cs' : Array Value, (Value.agg cs.toArray) = Value.agg cs' ∧ cs'.size = zs.size ∧ ∃ w2 : World, (storeCells ⟨w.heap.size, 0, none⟩ cs'.toList).run P w1 = .ok () w2 ∧ K w2 := by
  have := RecV.store (P := P) (RecV.new hw) (cs := cs) (by simpa using hl) h1 (K := K) fun w2 hf hr => hk w2 ((alloc_grow hw).fr hf fun i hi e => by omega) (by have := hf.size; have := alloc_size hw; omega) hr
  simpa using this
end
end Go.Proofs.Ytleiddajojgmmaa.VC

/- Own slices written by records, cut, cleared; the cells of a slice read by a relation; an empty literal of records. No condition. -/
namespace Go.Proofs.Ytleiddajojgmmaa.VC
open Go Go.RowKit
set_option linter.unusedSimpArgs false
set_option linter.unusedVariables false

/-- Cells are stored into an own slice. -/
theorem Own.put {P : Program} {w : World} {B : Nat} {e : TypeId} {sz g n cap o : Nat} {cs vs : List Value} (h : Own w B e sz (.slice (some ⟨g, 0, none⟩) n cap) n cs) (ho : o + vs.length ≤ n * sz) (h1 : ∀ u ∈ vs, u.oneCell' = true) :
    ∃ w', (storeCells ⟨g, o, none⟩ vs).run P w = .ok () w' ∧ Fr (fun k => k = g) w w' ∧ Own w' B e sz (.slice (some ⟨g, 0, none⟩) n cap) n (cs.take o ++ vs ++ cs.drop (o + vs.length)) := by
  rcases h.2 with ⟨h2, _⟩ | ⟨g', cap', cur, he, hb, hgg, hnc, hcm, hcs, htake⟩
  · cases h2
  · simp only [Value.slice.injEq, Option.some.injEq, Addr.mk.injEq, and_true, true_and] at he
    obtain ⟨rfl, rfl⟩ := he
    have hle : n * sz ≤ cur.size := by rw [hcs]; exact Nat.mul_le_mul_right _ hnc
    have hr := run_storeCells_at P g o e vs 0 cur w hgg (by omega) h1
    simp only [Nat.add_zero] at hr
    have hcl : cs.length = n * sz := h.1
    have hl : (cur.toList.take o ++ vs ++ cur.toList.drop (o + vs.length)).length = cur.size := by simp; omega
    refine ⟨_, hr, ⟨rfl, rfl, rfl, by simp [World.setRow], fun k _ hk => setRow_other w g k _ hk⟩, by simp; omega, .inr ⟨g, cap, _, rfl, hb, setRow_heap w g cur _ e _ hgg, hnc, hcm, by simpa using hl.trans hcs, ?_⟩⟩
    rw [← htake]
    apply List.ext_getElem?
    intro i
    simp only [List.toList_toArray, List.getElem?_take, List.getElem?_append, List.length_append, List.length_take, List.getElem?_drop, Array.length_toList]
    by_cases h3 : i < n * sz
    · rw [if_pos h3]
      have e1 : min o (min (n * sz) cur.size) = o := by omega
      have e2 : min o cur.size = o := by omega
      rw [e1, e2]
      by_cases h4 : i < o + vs.length
      · rw [if_pos h4, if_pos h4]
        by_cases h5 : i < o
        · rw [if_pos h5, if_pos h5, if_pos h5, if_pos h5, if_pos h3]
        · rw [if_neg h5, if_neg h5]
      · rw [if_neg h4, if_neg h4, if_pos (by omega)]
    · rw [if_neg h3]
      have e1 : min o (min (n * sz) cur.size) = o := by omega
      rw [e1, if_neg (by omega), if_neg (by omega)]
theorem Own.cut {w : World} {B : Nat} {e : TypeId} {sz g n cap k : Nat} {cs : List Value} (h : Own w B e sz (.slice (some ⟨g, 0, none⟩) n cap) n cs) (hk : k ≤ n) : Own w B e sz (.slice (some ⟨g, 0, none⟩) k cap) k (cs.take (k * sz)) := by
  rcases h.2 with ⟨h2, _⟩ | ⟨g', cap', cur, he, hb, hgg, hnc, hcm, hcs, htake⟩
  · cases h2
  · simp only [Value.slice.injEq, Option.some.injEq, Addr.mk.injEq, and_true, true_and] at he
    obtain ⟨rfl, rfl⟩ := he
    have hkn : k * sz ≤ n * sz := Nat.mul_le_mul_right _ hk
    have hcl : cs.length = n * sz := h.1
    refine ⟨by simp; omega, .inr ⟨g, cap, cur, rfl, hb, hgg, by omega, hcm, hcs, ?_⟩⟩
    rw [← htake, List.take_take, Nat.min_eq_left hkn]
/-- The cells of a slice that is read by a relation. -/
theorem SlX.cells {α : Type} {k : Nat} (hk0 : 0 < k) {rep : World → List Value → α → Prop} {w : World} {v : Value} {xs : List α} (h : SlX k rep w v xs) : ∃ ps : List (List Value × α), ps.map Prod.snd = xs ∧ (∀ p ∈ ps, p.1.length = k ∧ rep w p.1 p.2) ∧ SlC w v ps.length (ps.flatMap Prod.fst) := by
  obtain ⟨a, c, rfl, h1, h2, h3, h4⟩ := h.ex
  have hf : ∀ i : Fin xs.length, ∃ cs : List Value, cs.length = k ∧ (∀ t u, cs[t]? = some u → ∃ b, a = some b ∧ w.cell? (b.add (i.1 * k + t)) = some u) ∧ rep w cs xs[i.1] := fun i => by
    obtain ⟨b, cs, e1, e2, e3, e4⟩ := h4 i.1 i.2
    exact ⟨cs, e2, fun t u ht => ⟨b, e1, e3 t u ht⟩, e4⟩
  obtain ⟨f, hf⟩ := Classical.axiomOfChoice hf
  refine ⟨List.ofFn fun i => (f i, xs[i.1]), ?_, fun p hp => ?_, ?_⟩
  · rw [List.map_ofFn]
    exact List.ofFn_getElem
  · obtain ⟨i, rfl⟩ := List.mem_ofFn.1 hp
    exact ⟨(hf i).1, (hf i).2.2⟩
  · have hlen : (List.ofFn fun i : Fin xs.length => (f i, xs[i.1])).length = xs.length := List.length_ofFn
    have hall : ∀ p ∈ (List.ofFn fun i : Fin xs.length => (f i, xs[i.1])), (Prod.fst p).length = k := fun p hp => by
      obtain ⟨i, rfl⟩ := List.mem_ofFn.1 hp
      exact (hf i).1
    refine ⟨a, c, by rw [hlen], by rw [hlen]; exact h1, h2, h3, fun j u hj => ?_⟩
    have hlt := (List.getElem?_eq_some_iff.1 hj).1
    rw [flat_len' hall, hlen] at hlt
    have hi : j / k < xs.length := Nat.div_lt_of_lt_mul (by rw [Nat.mul_comm]; exact hlt)
    have ht := Nat.mod_lt j hk0
    have e : j / k * k + j % k = j := by rw [Nat.mul_comm]; exact Nat.div_add_mod j k
    rw [← e, flat_get' hall (by rw [hlen]; exact hi) ht] at hj
    simp only [List.getElem_ofFn] at hj
    obtain ⟨b, hb, hc⟩ := (hf ⟨j / k, hi⟩).2.1 _ u hj
    rw [e] at hc
    exact ⟨b, hb, hc⟩
theorem bs0 {P : Program} {t e : TypeId} {sz bytes : Nat} {z : Value} (hT : ElT P t e sz bytes z) (w : World) {K : Value → World → Prop}
    (hk : ∀ w', w' = w.alloc (.cells #[] e) → K (.slice (some ⟨w.heap.size, 0, none⟩) 0 0) w') : ∃ v : Value, ∃ w' : World, (Instr.buildSlice t 0 #[]).run P w = .ok v w' ∧ K v w' := by
  obtain ⟨i, hi, hz, hsize, hby⟩ := hT.info
  refine ⟨_, _, ?_, hk _ rfl⟩
  have hs : (sizeOf e).run P w = .ok sz w := by simp [sizeOf, typeInfo, hi, hsize]
  have hzr : (zeroValue e).run P w = .ok z w := by simp [zeroValue, typeInfo, hi, hz]
  simp only [Instr.buildSlice, Sem.run_bind, underlying_run hT.und, Result.andThen_ok, hs, Nat.zero_mul]
  have hr : ∀ f : Nat → Value, Array.map f (Array.range 0) = #[] := fun f => Array.eq_empty_of_size_eq_zero (by simp)
  simp [hzr, Instr.fill, newRow, run_newObj, hr]
theorem flat_take {α : Type} {f : α → List Value} {k : Nat} : ∀ {xs : List α} {i : Nat}, (∀ x ∈ xs, (f x).length = k) → (xs.take i).flatMap f = (xs.flatMap f).take (i * k)
  | [], i, _ => by simp
  | x :: r, 0, _ => by simp
  | x :: r, i + 1, h => by
    have hx := h x (List.mem_cons_self ..)
    have e : (i + 1) * k = k + i * k := by rw [Nat.add_mul]; omega
    rw [List.take_succ_cons, List.flatMap_cons, List.flatMap_cons, flat_take fun y hy => h y (List.mem_cons_of_mem _ hy), List.take_append, List.take_of_length_le (show (f x).length ≤ (i + 1) * k by rw [hx, e]; omega), hx, e, show k + i * k - k = i * k by omega]
theorem flat_drop {α : Type} {f : α → List Value} {k : Nat} : ∀ {xs : List α} {i : Nat}, (∀ x ∈ xs, (f x).length = k) → (xs.drop i).flatMap f = (xs.flatMap f).drop (i * k)
  | [], i, _ => by simp
  | x :: r, 0, _ => by simp
  | x :: r, i + 1, h => by
    have hx := h x (List.mem_cons_self ..)
    have e : (i + 1) * k = k + i * k := by rw [Nat.add_mul]; omega
    rw [List.drop_succ_cons, List.flatMap_cons, flat_drop fun y hy => h y (List.mem_cons_of_mem _ hy), List.drop_append, List.drop_of_length_le (show (f x).length ≤ (i + 1) * k by rw [hx, e]; omega), hx, e, show k + i * k - k = i * k by omega, List.nil_append]
theorem flat_set {α : Type} {f : α → List Value} {k : Nat} {xs : List α} {i : Nat} {y : α} (h : ∀ x ∈ xs, (f x).length = k) (hi : i < xs.length) (hy : (f y).length = k) : (xs.set i y).flatMap f = (xs.flatMap f).take (i * k) ++ f y ++ (xs.flatMap f).drop (i * k + (f y).length) := by
  rw [List.set_eq_take_append_cons_drop, if_pos hi, List.flatMap_append, List.flatMap_cons, flat_take h, flat_drop h, hy, List.append_assoc]
  congr 3
  rw [Nat.add_mul]; omega
/-! ## clear, and neighbours that are equal -/
theorem clear_run {P : Program} {t e : TypeId} {sz bytes : Nat} {z : Value} (hT : ElT P t e sz bytes z) {w w' : World} {a : Addr} {n c : Nat} {ty : TypeId} (hn : n ≠ 0) (h : (storeCells a (Builtin.zeroCells z.cells n).toList).run P w = .ok () w') :
    (Builtin.clear_ #[t] ty #[.slice (some a) n c]).run P w = .ok (.tuple #[]) w' := by
  obtain ⟨i, hi, hz, hsize, hby⟩ := hT.info
  have hzr : (zeroValue e).run P w = .ok z w := by simp [zeroValue, typeInfo, hi, hz]
  cases n with
  | zero => exact absurd rfl hn
  | succ n => simp [Builtin.clear_, underlying_run hT.und, hzr, h]
theorem zeroCells_mem {z : Array Value} {n : Nat} (hz : 0 < z.size) (h1 : ∀ u ∈ z.toList, u.oneCell' = true) : ∀ u ∈ (Builtin.zeroCells z n).toList, u.oneCell' = true := by
  intro u hu
  simp only [Builtin.zeroCells, Array.toList_map, Array.toList_range, List.mem_map, List.mem_range] at hu
  obtain ⟨j, hj, rfl⟩ := hu
  have hlt := Nat.mod_lt j hz
  have : z[j % z.size]! = z[j % z.size] := by simp [hlt]
  rw [this]
  exact h1 _ (by simp)
section
variable {α : Type} [DecidableEq α]
def ddp (y : α) : List α → List α
  | [] => []
  | x :: r => if x = y then ddp x r else x :: ddp x r
/-- Of neighbours that are equal the first. -/
def dd : List α → List α
  | [] => []
  | a :: r => a :: ddp a r
theorem ddp_app : ∀ (r : List α) (y x : α), ddp y (r ++ [x]) = ddp y r ++ (if x = (y :: r).getLast (by simp) then [] else [x])
  | [], y, x => by simp only [List.nil_append]; rfl
  | z :: r, y, x => by
    rw [List.cons_append, ddp, ddp, ddp_app r z x]
    have : (y :: z :: r).getLast (by simp) = (z :: r).getLast (by simp) := by simp [List.getLast_cons]
    rw [this]
    split <;> simp
theorem dd_app {l : List α} (hl : l ≠ []) (x : α) : dd (l ++ [x]) = dd l ++ (if x = l.getLast hl then [] else [x]) := by
  cases l with
  | nil => exact absurd rfl hl
  | cons a r => rw [List.cons_append, dd, dd, ddp_app]; rfl
theorem dd_take {l : List α} {i : Nat} (h0 : 1 ≤ i) (hi : i < l.length) : dd (l.take (i + 1)) = dd (l.take i) ++ (if l[i] = l[i - 1] then [] else [l[i]]) := by
  have hne : l.take i ≠ [] := by
    intro e
    have := congrArg List.length e
    rw [List.length_take, List.length_nil] at this
    omega
  rw [List.take_succ_eq_append_getElem hi, dd_app hne]
  have : (l.take i).getLast hne = l[i - 1] := by
    rw [List.getLast_eq_getElem, List.getElem_take]
    congr 1
    simp only [List.length_take]; omega
  rw [this]
theorem dd_one (a : α) : dd [a] = [a] := rfl
end
end Go.Proofs.Ytleiddajojgmmaa.VC

/- An own slice behind the library's sort. No condition. -/
namespace Go.Proofs.Ytleiddajojgmmaa.VC
open Go Go.RowKit Go.Sort
set_option linter.unusedSimpArgs false
set_option linter.unusedVariables false

theorem flatK_eq {α : Type} [Inhabited α] {enc : α → List Value} {k : Nat} (hk : ∀ x, (enc x).length = k) (h0 : 0 < k) (d : Array α) : flatK enc k d = (d.toList.flatMap enc).toArray := by
  have hl : (d.toList.flatMap enc).length = d.size * k := by rw [flat_len hk]; simp
  apply Array.ext_getElem?
  intro t
  by_cases ht : t < d.size * k
  · have hi : t / k < d.toList.length := by simpa using Nat.div_lt_of_lt_mul (by rwa [Nat.mul_comm] at ht)
    have hm := Nat.mod_lt t h0
    have e : t / k * k + t % k = t := by rw [Nat.mul_comm]; exact Nat.div_add_mod t k
    have h1 := flat_get (f := enc) hk hi hm
    rw [e] at h1
    have hd : t / k < d.size := by simpa using hi
    have hme : t % k < (enc d[t / k]).length := by rw [hk]; exact hm
    simp only [List.getElem?_toArray, h1, flatK]
    simp [ht, hd, hme]
  · rw [Array.getElem?_eq_none (by simp; omega), List.getElem?_toArray, List.getElem?_eq_none (by omega)]
theorem heap_put {w : World} {g n : Nat} {os : Array Obj} {cur : Array Value} {e : TypeId} {fr : Nat × Nat} (d : Array Value) (hb : w.heap[g]? = some (.cells cur e fr)) :
    (grow (putRow id (Sort.ahead w n) g 0 d) os).heap[g]? = some (.cells (putCells id 0 d cur) e fr) := by
  have hg : g < w.heap.size := (Array.getElem?_eq_some_iff.1 hb).1
  rw [heap_grow_old _ _ (by simpa using hg)]
  simp [putRow, mapBlock, Sort.ahead, Array.getElem?_modify, hb, onCells]
theorem put_fr {w : World} {g n : Nat} {os : Array Obj} (d : Array Value) : Fr (fun k => k = g) w (grow (putRow id (Sort.ahead w n) g 0 d) os) := by
  refine ⟨rfl, rfl, rfl, by simp, fun k hk hne => ?_⟩
  rw [heap_grow_old _ _ (by simpa using hk)]
  have : g ≠ k := fun e => hne e.symm
  simp [putRow, mapBlock, Sort.ahead, Array.getElem?_modify, this]
theorem take_put (cur : Array Value) (ts : List Value) (h : ts.length ≤ cur.size) : (putCells id 0 ts.toArray cur).toList.take ts.length = ts := by
  apply List.ext_getElem?
  intro j
  by_cases hj : j < ts.length
  · rw [List.getElem?_take_of_lt hj, Array.getElem?_toList]
    simp [putCells, hj, show j < cur.size by omega]
  · rw [List.getElem?_take_eq_none (by omega), List.getElem?_eq_none (by omega)]
theorem Own.behind {w : World} {B : Nat} {e : TypeId} {sz g n cap m : Nat} {cs ts : List Value} {os : Array Obj} (h : Own w B e sz (.slice (some ⟨g, 0, none⟩) n cap) n cs) (hl : ts.length = n * sz) :
    Own (Go.Sort.grow (putRow id (Sort.ahead w m) g 0 ts.toArray) os) B e sz (.slice (some ⟨g, 0, none⟩) n cap) n ts := by
  rcases h.2 with ⟨h2, _⟩ | ⟨g', cap', cur, he, hb, hgg, hnc, hcm, hcs, htake⟩
  · cases h2
  · simp only [Value.slice.injEq, Option.some.injEq, Addr.mk.injEq, and_true, true_and] at he
    obtain ⟨rfl, rfl⟩ := he
    have hle : n * sz ≤ cap * sz := Nat.mul_le_mul_right _ hnc
    exact ⟨hl, .inr ⟨g, cap, _, rfl, hb, heap_put _ hgg, hnc, hcm, by simpa [putCells] using hcs, by rw [← hl]; exact take_put cur ts (by omega)⟩⟩
theorem Own.holds {w : World} {B : Nat} {e : TypeId} {sz g n cap : Nat} {cs : List Value} (h : Own w B e sz (.slice (some ⟨g, 0, none⟩) n cap) n cs) : Holds id w g 0 cs.toArray := by
  intro j hj
  have hj : j < cs.length := by simpa using hj
  refine ⟨?_, ?_⟩
  · have := World.ownsRow.cells (g := g) h rfl j cs[j] (by simp [hj])
    rw [Addr.add0] at this
    rw [Nat.zero_add, this]
    simp [hj]
  · rcases h.2 with ⟨h2, _⟩ | ⟨g', cap', cur, he, hb, hgg, _⟩
    · cases h2
    · simp only [Value.slice.injEq, Option.some.injEq, Addr.mk.injEq, and_true, true_and] at he
      obtain ⟨rfl, rfl⟩ := he
      simp [World.frozen?, hgg]
end Go.Proofs.Ytleiddajojgmmaa.VC

/- Maps from arrays of ints to bools that hold nothing but true. No condition. -/
namespace Go.Proofs.Ytleiddajojgmmaa.VC
open Go Go.RowKit Go.WideMaps
set_option linter.unusedSimpArgs false
set_option linter.unusedVariables false

/-- A map whose keys are ks; all values are true. -/
structure MapB (P : Program) (k : TypeId) (w : World) (b : Nat) (ks : List Value) : Prop where
  ex : ∃ es clock, w.heap[b]? = some (.map es clock) ∧ es.toList.map (·.key) = ks ∧ ∀ e ∈ es.toList, ∃ l, keyOf P k e.key = some l
section
variable {P : Program} {k : TypeId} {w w' : World} {b : Nat} {ks : List Value}
theorem MapB.lt (h : MapB P k w b ks) : b < w.heap.size := by
  obtain ⟨es, c, h1, _⟩ := h.ex
  exact (Array.getElem?_eq_some_iff.1 h1).1
theorem MapB.fr {S : Nat → Prop} (h : MapB P k w b ks) (hf : Fr S w w') (hs : ¬ S b) : MapB P k w' b ks := by
  have hlt := h.lt
  obtain ⟨es, c, h1, h2⟩ := h.ex
  exact ⟨es, c, (hf.block b hlt hs).trans h1, h2⟩
theorem MapB.grow (h : MapB P k w b ks) (hf : Grow w w') : MapB P k w' b ks := h.fr (Fr.of_grow (S := fun _ => False) hf) id
theorem MapB.make (t : TypeId) (w : World) {K : Value → World → Prop} (hk : ∀ w', w' = w.alloc (.map #[] 0) → MapB P k w' w.heap.size [] → Grow w w' → w'.heap.size = w.heap.size + 1 → K (.map (some w.heap.size)) w') :
    ∃ v : Value, ∃ w' : World, (Instr.makeMap t none).run P w = .ok v w' ∧ K v w' := by
  refine ⟨_, _, run_makeMap t w, hk _ rfl ⟨#[], 0, heap_alloc_new w _, rfl, by simp⟩ ((Grow.refl w).alloc _) (by simp)⟩
/-- What is not in it reads as false. -/
theorem MapB.no (K : KeyLaw P k) {t et : TypeId} {i : TypeInfo} (ht : P.underlying t = some (.map k et)) (hi : P.info? et = some i) (hz : i.zero = some (.bool false)) (h : MapB P k w b ks) {x : Value} {l : Lit} (hx : keyOf P k x = some l) (hn : x ∉ ks) :
    (Instr.lookup t (.map (some b)) x false).run P w = .ok (.bool false) w := by
  obtain ⟨es, c, h1, h2, h3⟩ := h.ex
  have hzr : (zeroValue et).run P w = .ok (.bool false) w := by simp [zeroValue, typeInfo, hi, hz]
  rcases K.find w hx es.toList h3 with ⟨h4, h5⟩ | ⟨j, e, h4, h5, h6⟩
  · simp only [Instr.lookup, Sem.run_bind, underlying_run ht, Result.andThen_ok, MapKept.run_getObj_map h1, Sem.run_pure, K.check w _ hx, h4, hzr]
    rfl
  · exact absurd (h6 ▸ h2 ▸ List.mem_map_of_mem (List.mem_of_getElem? h5)) hn
theorem MapB.add (K : KeyLaw P k) {t et : TypeId} (ht : P.underlying t = some (.map k et)) (h : MapB P k w b ks) {x : Value} {l : Lit} (hx : keyOf P k x = some l) (hn : x ∉ ks) :
    ∃ w', (Instr.mapUpdate t (.map (some b)) x (.bool true)).run P w = .ok () w' ∧ MapB P k w' b (ks ++ [x]) ∧ Fr (fun q => q = b) w w' := by
  have hlt := h.lt
  obtain ⟨es, c, h1, h2, h3⟩ := h.ex
  have fr : ∀ o, Fr (fun q => q = b) w { w with heap := w.heap.setIfInBounds b o } := fun o => ⟨rfl, rfl, rfl, by simp, fun q _ hq => Array.getElem?_setIfInBounds_ne fun e => hq e.symm⟩
  have at_ : ∀ o, (w.heap.setIfInBounds b o)[b]? = some o := fun o => by simp [Array.getElem?_setIfInBounds, hlt]
  rcases K.find w hx es.toList h3 with ⟨h4, h5⟩ | ⟨j, e, h4, h5, h6⟩
  · refine ⟨_, ?_, ⟨_, _, at_ (.map (es.push { key := x, val := .bool true, born := c }) (c + 1)), by simp [h2], fun e he => ?_⟩, fr _⟩
    · simp [Instr.mapUpdate, underlying_run ht, MapKept.run_getObj_map h1, K.check w _ hx, h4, MapKept.run_setObj_map _ h1]
    · rw [Array.toList_push] at he
      rcases List.mem_append.1 he with he | he
      · exact h3 e he
      · have : e = { key := x, val := .bool true, born := c } := by simpa using he
        subst this; exact ⟨l, hx⟩
  · exact absurd (h6 ▸ h2 ▸ List.mem_map_of_mem (List.mem_of_getElem? h5)) hn
end
/-- Eight ints as a key. -/
theorem keyOf_eight {P : Program} {k e : TypeId} (A : ArrKey P k e 8) (he : P.underlying e = some (.int .i64)) (hsz : ∃ m, P.types.size = m + 1) {xs : List Int} (hl : xs.length = 8) (hw : ∀ x ∈ xs, (Lit.int .i64 x).wf = true) :
    ∃ l, keyOf P k (.agg (xs.map encI).toArray) = some l := by
  match xs, hl with
  | [a, b, c, d, f, g, h, i], _ =>
    have w0 := hw a (by simp)
    have w1 := hw b (by simp)
    have w2 := hw c (by simp)
    have w3 := hw d (by simp)
    have w4 := hw f (by simp)
    have w5 := hw g (by simp)
    have w6 := hw h (by simp)
    have w7 := hw i (by simp)
    have hkt := A.keyType hsz
    obtain ⟨m, hm⟩ := hsz
    unfold keyOf
    simp only [A.hu]
    rw [if_pos (by simp [hkt, Value.formed, A.hu, A.size]), hm]
    unfold Program.keyLits
    simp only [A.hu, Value.cells]
    rw [if_pos (by rw [A.size]; rfl), show List.range 8 = [0, 1, 2, 3, 4, 5, 6, 7] from rfl]
    simp only [List.mapM_cons, List.mapM_nil]
    simp [A.one, Program.keyLits, he, w0, w1, w2, w3, w4, w5, w6, w7, encI]
end Go.Proofs.Ytleiddajojgmmaa.VC
