/- Record variables: a record on the heap that is set as a whole or field by field. No condition. -/
import Derived.Test.YtmjpnfapjcfejaaDoorVr
import Derived.Shelf.SlSortCmp.NoneTotal
import Derived.MapKept
import Derived.WideKeyPair
import Derived.DeepKeys4
import Derived.Test.YtmjpnfapjcfejaaDoorMc
import Derived.Shelf.SlSortCmp.Insertion
import Derived.Test.YtmjpnfapjcfejaaDoorSh
import Derived.Laws.BitsLemmas
namespace Go.Proofs.YtmjpnfapjcfejaaDoor.VC
open Go Go.RowKit
set_option linter.unusedSimpArgs false
set_option linter.unusedVariables false

/-- The block b holds just these cells; they can be written. -/
def RecV (w : World) (b : Nat) (cs : List Value) : Prop := ∃ t, w.heap[b]? = some (.cells cs.toArray t (0, 0))
theorem add_block (a : Addr) (j : Nat) : (a.add j).block = a.block := by unfold Addr.add; split <;> rfl
section
variable {w w' : World} {b : Nat} {cs : List Value}
theorem RecV.lt (h : RecV w b cs) : b < w.heap.size := by obtain ⟨t, h⟩ := h; exact (Array.getElem?_eq_some_iff.1 h).1
theorem RecV.new {zs : Array Value} {t : TypeId} (hw : w' = w.alloc (.cells zs t)) : RecV w' w.heap.size zs.toList := ⟨t, by subst hw; simpa using heap_alloc_new w _⟩
theorem RecV.cell (h : RecV w b cs) {j : Nat} {u : Value} (hj : cs[j]? = some u) : w.cell? (Addr.add ⟨b, 0, none⟩ j) = some u := by
  obtain ⟨t, h⟩ := h
  exact row_cells h j u (by simpa using hj)
theorem RecV.all (h : RecV w b cs) : ∀ (j : Nat) (u : Value), cs[j]? = some u → w.cell? (Addr.add ⟨b, 0, none⟩ j) = some u := fun j u hj => h.cell hj
theorem RecV.free (h : RecV w b cs) (j : Nat) : w.frozen? (Addr.add ⟨b, 0, none⟩ j) = false := by
  obtain ⟨t, h⟩ := h
  rw [Addr.add0]
  simp [World.frozen?, h]
theorem RecV.fr {S : Nat → Prop} (h : RecV w b cs) (hf : Fr S w w') (hs : ¬ S b) : RecV w' b cs := by
  have hl := h.lt
  obtain ⟨t, h⟩ := h
  exact ⟨t, (hf.block b hl hs).trans h⟩
theorem RecV.grow (h : RecV w b cs) (hf : Grow w w') : RecV w' b cs := h.fr (Fr.of_grow (S := fun _ => False) hf) id
theorem RecV.set (h : RecV w b cs) {j : Nat} {u : Value} (hw : w' = w.setCell (Addr.add ⟨b, 0, none⟩ j) u) : RecV w' b (cs.set j u) := by
  obtain ⟨t, h⟩ := h
  subst hw
  rw [Addr.add0]
  exact ⟨t, by simp [World.setCell, Array.getElem?_modify, h]⟩
theorem RecV.set_fr {j : Nat} {u : Value} (hw : w' = w.setCell (Addr.add ⟨b, 0, none⟩ j) u) : Fr (fun k => k = b) w w' := by
  have := VC.set_fr hw
  rwa [add_block] at this
/-- A record variable is set as a whole. -/
theorem RecV.store {P : Program} {old cs : List Value} (h : RecV w b old) (hl : cs.length = old.length) (h1 : ∀ v ∈ cs, v.oneCell' = true) {K : World → Prop} (hk : ∀ w2, Fr (fun k => k = b) w w2 → RecV w2 b cs → K w2) :
    ∃ cs' : Array Value, (Value.agg cs.toArray) = Value.agg cs' ∧ cs'.size = old.length ∧ ∃ w2 : World, (storeCells ⟨b, 0, none⟩ cs'.toList).run P w = .ok () w2 ∧ K w2 := by
  obtain ⟨t, h⟩ := h
  obtain ⟨w2, hr, hf, hrow⟩ := store_row (P := P) (cs := cs.toArray) h (by simpa using hl) (by simpa using h1)
  exact ⟨_, rfl, by simpa using hl, w2, hr, hk w2 hf ⟨t, hrow⟩⟩
/-- A new one is laid and set. -/
theorem RecV.init {P : Program} {w1 : World} {zs : Array Value} {cs : List Value} {t : TypeId} (hw : w1 = w.alloc (.cells zs t)) (hl : cs.length = zs.size) (h1 : ∀ v ∈ cs, v.oneCell' = true) {K : World → Prop}
    (hk : ∀ w2, Grow w w2 → w.heap.size < w2.heap.size → RecV w2 w.heap.size cs → K w2) :
    ∃ cs' : Array Value, (Value.agg cs.toArray) = Value.agg cs' ∧ cs'.size = zs.size ∧ ∃ w2 : World, (storeCells ⟨w.heap.size, 0, none⟩ cs'.toList).run P w1 = .ok () w2 ∧ K w2 := by
  have := RecV.store (P := P) (RecV.new hw) (cs := cs) (by simpa using hl) h1 (K := K) fun w2 hf hr => hk w2 ((alloc_grow hw).fr hf fun i hi e => by omega) (by have := hf.size; have := alloc_size hw; omega) hr
  simpa using this
end
end Go.Proofs.YtmjpnfapjcfejaaDoor.VC

/- Own slices written by records, cut, cleared; the cells of a slice read by a relation; an empty literal of records. No condition. -/
namespace Go.Proofs.YtmjpnfapjcfejaaDoor.VC
open Go Go.RowKit
set_option linter.unusedSimpArgs false
set_option linter.unusedVariables false

/-- Cells are stored into an own slice. -/
theorem Own.put {P : Program} {w : World} {B : Nat} {e : TypeId} {sz g n cap o : Nat} {cs vs : List Value} (h : Own w B e sz (.slice (some ⟨g, 0, none⟩) n cap) n cs) (ho : o + vs.length ≤ n * sz) (h1 : ∀ u ∈ vs, u.oneCell' = true) :
    ∃ w', (storeCells ⟨g, o, none⟩ vs).run P w = .ok () w' ∧ Fr (fun k => k = g) w w' ∧ Own w' B e sz (.slice (some ⟨g, 0, none⟩) n cap) n (cs.take o ++ vs ++ cs.drop (o + vs.length)) := by
  rcases h.2 with ⟨h2, _⟩ | ⟨g', cap', cur, he, hb, hgg, hnc, hcm, hcs, htake⟩
  · cases h2
  · simp only [Value.slice.injEq, Option.some.injEq, Addr.mk.injEq, and_true, true_and] at he
    obtain ⟨rfl, rfl⟩ := he
    have hle : n * sz ≤ cur.size := by rw [hcs]; exact Nat.mul_le_mul_right _ hnc
    have hr := run_storeCells_at P g o e vs 0 cur w hgg (by omega) h1
    simp only [Nat.add_zero] at hr
    have hcl : cs.length = n * sz := h.1
    have hl : (cur.toList.take o ++ vs ++ cur.toList.drop (o + vs.length)).length = cur.size := by simp; omega
    refine ⟨_, hr, ⟨rfl, rfl, rfl, by simp [World.setRow], fun k _ hk => setRow_other w g k _ hk⟩, by simp; omega, .inr ⟨g, cap, _, rfl, hb, setRow_heap w g cur _ e _ hgg, hnc, hcm, by simpa using hl.trans hcs, ?_⟩⟩
    rw [← htake]
    apply List.ext_getElem?
    intro i
    simp only [List.toList_toArray, List.getElem?_take, List.getElem?_append, List.length_append, List.length_take, List.getElem?_drop, Array.length_toList]
    by_cases h3 : i < n * sz
    · rw [if_pos h3]
      have e1 : min o (min (n * sz) cur.size) = o := by omega
      have e2 : min o cur.size = o := by omega
      rw [e1, e2]
      by_cases h4 : i < o + vs.length
      · rw [if_pos h4, if_pos h4]
        by_cases h5 : i < o
        · rw [if_pos h5, if_pos h5, if_pos h5, if_pos h5, if_pos h3]
        · rw [if_neg h5, if_neg h5]
      · rw [if_neg h4, if_neg h4, if_pos (by omega)]
    · rw [if_neg h3]
      have e1 : min o (min (n * sz) cur.size) = o := by omega
      rw [e1, if_neg (by omega), if_neg (by omega)]
theorem Own.cut {w : World} {B : Nat} {e : TypeId} {sz g n cap k : Nat} {cs : List Value} (h : Own w B e sz (.slice (some ⟨g, 0, none⟩) n cap) n cs) (hk : k ≤ n) : Own w B e sz (.slice (some ⟨g, 0, none⟩) k cap) k (cs.take (k * sz)) := by
  rcases h.2 with ⟨h2, _⟩ | ⟨g', cap', cur, he, hb, hgg, hnc, hcm, hcs, htake⟩
  · cases h2
  · simp only [Value.slice.injEq, Option.some.injEq, Addr.mk.injEq, and_true, true_and] at he
    obtain ⟨rfl, rfl⟩ := he
    have hkn : k * sz ≤ n * sz := Nat.mul_le_mul_right _ hk
    have hcl : cs.length = n * sz := h.1
    refine ⟨by simp; omega, .inr ⟨g, cap, cur, rfl, hb, hgg, by omega, hcm, hcs, ?_⟩⟩
    rw [← htake, List.take_take, Nat.min_eq_left hkn]
/-- The cells of a slice that is read by a relation. -/
theorem SlX.cells {α : Type} {k : Nat} (hk0 : 0 < k) {rep : World → List Value → α → Prop} {w : World} {v : Value} {xs : List α} (h : SlX k rep w v xs) : ∃ ps : List (List Value × α), ps.map Prod.snd = xs ∧ (∀ p ∈ ps, p.1.length = k ∧ rep w p.1 p.2) ∧ SlC w v ps.length (ps.flatMap Prod.fst) := by
  obtain ⟨a, c, rfl, h1, h2, h3, h4⟩ := h.ex
  have hf : ∀ i : Fin xs.length, ∃ cs : List Value, cs.length = k ∧ (∀ t u, cs[t]? = some u → ∃ b, a = some b ∧ w.cell? (b.add (i.1 * k + t)) = some u) ∧ rep w cs xs[i.1] := fun i => by
    obtain ⟨b, cs, e1, e2, e3, e4⟩ := h4 i.1 i.2
    exact ⟨cs, e2, fun t u ht => ⟨b, e1, e3 t u ht⟩, e4⟩
  obtain ⟨f, hf⟩ := Classical.axiomOfChoice hf
  refine ⟨List.ofFn fun i => (f i, xs[i.1]), ?_, fun p hp => ?_, ?_⟩
  · rw [List.map_ofFn]
    exact List.ofFn_getElem
  · obtain ⟨i, rfl⟩ := List.mem_ofFn.1 hp
    exact ⟨(hf i).1, (hf i).2.2⟩
  · have hlen : (List.ofFn fun i : Fin xs.length => (f i, xs[i.1])).length = xs.length := List.length_ofFn
    have hall : ∀ p ∈ (List.ofFn fun i : Fin xs.length => (f i, xs[i.1])), (Prod.fst p).length = k := fun p hp => by
      obtain ⟨i, rfl⟩ := List.mem_ofFn.1 hp
      exact (hf i).1
    refine ⟨a, c, by rw [hlen], by rw [hlen]; exact h1, h2, h3, fun j u hj => ?_⟩
    have hlt := (List.getElem?_eq_some_iff.1 hj).1
    rw [flat_len' hall, hlen] at hlt
    have hi : j / k < xs.length := Nat.div_lt_of_lt_mul (by rw [Nat.mul_comm]; exact hlt)
    have ht := Nat.mod_lt j hk0
    have e : j / k * k + j % k = j := by rw [Nat.mul_comm]; exact Nat.div_add_mod j k
    rw [← e, flat_get' hall (by rw [hlen]; exact hi) ht] at hj
    simp only [List.getElem_ofFn] at hj
    obtain ⟨b, hb, hc⟩ := (hf ⟨j / k, hi⟩).2.1 _ u hj
    rw [e] at hc
    exact ⟨b, hb, hc⟩
theorem bs0 {P : Program} {t e : TypeId} {sz bytes : Nat} {z : Value} (hT : ElT P t e sz bytes z) (w : World) {K : Value → World → Prop}
    (hk : ∀ w', w' = w.alloc (.cells #[] e) → K (.slice (some ⟨w.heap.size, 0, none⟩) 0 0) w') : ∃ v : Value, ∃ w' : World, (Instr.buildSlice t 0 #[]).run P w = .ok v w' ∧ K v w' := by
  obtain ⟨i, hi, hz, hsize, hby⟩ := hT.info
  refine ⟨_, _, ?_, hk _ rfl⟩
  have hs : (sizeOf e).run P w = .ok sz w := by simp [sizeOf, typeInfo, hi, hsize]
  have hzr : (zeroValue e).run P w = .ok z w := by simp [zeroValue, typeInfo, hi, hz]
  simp only [Instr.buildSlice, Sem.run_bind, underlying_run hT.und, Result.andThen_ok, hs, Nat.zero_mul]
  have hr : ∀ f : Nat → Value, Array.map f (Array.range 0) = #[] := fun f => Array.eq_empty_of_size_eq_zero (by simp)
  simp [hzr, Instr.fill, newRow, run_newObj, hr]
theorem flat_take {α : Type} {f : α → List Value} {k : Nat} : ∀ {xs : List α} {i : Nat}, (∀ x ∈ xs, (f x).length = k) → (xs.take i).flatMap f = (xs.flatMap f).take (i * k)
  | [], i, _ => by simp
  | x :: r, 0, _ => by simp
  | x :: r, i + 1, h => by
    have hx := h x (List.mem_cons_self ..)
    have e : (i + 1) * k = k + i * k := by rw [Nat.add_mul]; omega
    rw [List.take_succ_cons, List.flatMap_cons, List.flatMap_cons, flat_take fun y hy => h y (List.mem_cons_of_mem _ hy), List.take_append, List.take_of_length_le (show (f x).length ≤ (i + 1) * k by rw [hx, e]; omega), hx, e, show k + i * k - k = i * k by omega]
theorem flat_drop {α : Type} {f : α → List Value} {k : Nat} : ∀ {xs : List α} {i : Nat}, (∀ x ∈ xs, (f x).length = k) → (xs.drop i).flatMap f = (xs.flatMap f).drop (i * k)
  | [], i, _ => by simp
  | x :: r, 0, _ => by simp
  | x :: r, i + 1, h => by
    have hx := h x (List.mem_cons_self ..)
    have e : (i + 1) * k = k + i * k := by rw [Nat.add_mul]; omega
    rw [List.drop_succ_cons, List.flatMap_cons, flat_drop fun y hy => h y (List.mem_cons_of_mem _ hy), List.drop_append, List.drop_of_length_le (show (f x).length ≤ (i + 1) * k by rw [hx, e]; omega), hx, e, show k + i * k - k = i * k by omega, List.nil_append]
theorem flat_set {α : Type} {f : α → List Value} {k : Nat} {xs : List α} {i : Nat} {y : α} (h : ∀ x ∈ xs, (f x).length = k) (hi : i < xs.length) (hy : (f y).length = k) : (xs.set i y).flatMap f = (xs.flatMap f).take (i * k) ++ f y ++ (xs.flatMap f).drop (i * k + (f y).length) := by
  rw [List.set_eq_take_append_cons_drop, if_pos hi, List.flatMap_append, List.flatMap_cons, flat_take h, flat_drop h, hy, List.append_assoc]
  congr 3
  rw [Nat.add_mul]; omega
/-! ## clear, and neighbours that are equal -/
theorem clear_run {P : Program} {t e : TypeId} {sz bytes : Nat} {z : Value} (hT : ElT P t e sz bytes z) {w w' : World} {a : Addr} {n c : Nat} {ty : TypeId} (hn : n ≠ 0) (h : (storeCells a (Builtin.zeroCells z.cells n).toList).run P w = .ok () w') :
    (Builtin.clear_ #[t] ty #[.slice (some a) n c]).run P w = .ok (.tuple #[]) w' := by
  obtain ⟨i, hi, hz, hsize, hby⟩ := hT.info
  have hzr : (zeroValue e).run P w = .ok z w := by simp [zeroValue, typeInfo, hi, hz]
  cases n with
  | zero => exact absurd rfl hn
  | succ n => simp [Builtin.clear_, underlying_run hT.und, hzr, h]
theorem zeroCells_mem {z : Array Value} {n : Nat} (hz : 0 < z.size) (h1 : ∀ u ∈ z.toList, u.oneCell' = true) : ∀ u ∈ (Builtin.zeroCells z n).toList, u.oneCell' = true := by
  intro u hu
  simp only [Builtin.zeroCells, Array.toList_map, Array.toList_range, List.mem_map, List.mem_range] at hu
  obtain ⟨j, hj, rfl⟩ := hu
  have hlt := Nat.mod_lt j hz
  have : z[j % z.size]! = z[j % z.size] := by simp [hlt]
  rw [this]
  exact h1 _ (by simp)
section
variable {α : Type} [DecidableEq α]
def ddp (y : α) : List α → List α
  | [] => []
  | x :: r => if x = y then ddp x r else x :: ddp x r
/-- Of neighbours that are equal the first. -/
def dd : List α → List α
  | [] => []
  | a :: r => a :: ddp a r
theorem ddp_app : ∀ (r : List α) (y x : α), ddp y (r ++ [x]) = ddp y r ++ (if x = (y :: r).getLast (by simp) then [] else [x])
  | [], y, x => by simp only [List.nil_append]; rfl
  | z :: r, y, x => by
    rw [List.cons_append, ddp, ddp, ddp_app r z x]
    have : (y :: z :: r).getLast (by simp) = (z :: r).getLast (by simp) := by simp [List.getLast_cons]
    rw [this]
    split <;> simp
theorem dd_app {l : List α} (hl : l ≠ []) (x : α) : dd (l ++ [x]) = dd l ++ (if x = l.getLast hl then [] else [x]) := by
  cases l with
  | nil => exact absurd rfl hl
  | cons a r => rw [List.cons_append, dd, dd, ddp_app]; rfl
theorem dd_take {l : List α} {i : Nat} (h0 : 1 ≤ i) (hi : i < l.length) : dd (l.take (i + 1)) = dd (l.take i) ++ (if l[i] = l[i - 1] then [] else [l[i]]) := by
  have hne : l.take i ≠ [] := by
    intro e
    have := congrArg List.length e
    rw [List.length_take, List.length_nil] at this
    omega
  rw [List.take_succ_eq_append_getElem hi, dd_app hne]
  have : (l.take i).getLast hne = l[i - 1] := by
    rw [List.getLast_eq_getElem, List.getElem_take]
    congr 1
    simp only [List.length_take]; omega
  rw [this]
theorem dd_one (a : α) : dd [a] = [a] := rfl
end
end Go.Proofs.YtmjpnfapjcfejaaDoor.VC

/- An own slice behind the library's sort. No condition. -/
namespace Go.Proofs.YtmjpnfapjcfejaaDoor.VC
open Go Go.RowKit Go.Sort
set_option linter.unusedSimpArgs false
set_option linter.unusedVariables false

theorem flatK_eq {α : Type} [Inhabited α] {enc : α → List Value} {k : Nat} (hk : ∀ x, (enc x).length = k) (h0 : 0 < k) (d : Array α) : flatK enc k d = (d.toList.flatMap enc).toArray := by
  have hl : (d.toList.flatMap enc).length = d.size * k := by rw [flat_len hk]; simp
  apply Array.ext_getElem?
  intro t
  by_cases ht : t < d.size * k
  · have hi : t / k < d.toList.length := by simpa using Nat.div_lt_of_lt_mul (by rwa [Nat.mul_comm] at ht)
    have hm := Nat.mod_lt t h0
    have e : t / k * k + t % k = t := by rw [Nat.mul_comm]; exact Nat.div_add_mod t k
    have h1 := flat_get (f := enc) hk hi hm
    rw [e] at h1
    have hd : t / k < d.size := by simpa using hi
    have hme : t % k < (enc d[t / k]).length := by rw [hk]; exact hm
    simp only [List.getElem?_toArray, h1, flatK]
    simp [ht, hd, hme]
  · rw [Array.getElem?_eq_none (by simp; omega), List.getElem?_toArray, List.getElem?_eq_none (by omega)]
theorem heap_put {w : World} {g n : Nat} {os : Array Obj} {cur : Array Value} {e : TypeId} {fr : Nat × Nat} (d : Array Value) (hb : w.heap[g]? = some (.cells cur e fr)) :
    (grow (putRow id (Sort.ahead w n) g 0 d) os).heap[g]? = some (.cells (putCells id 0 d cur) e fr) := by
  have hg : g < w.heap.size := (Array.getElem?_eq_some_iff.1 hb).1
  rw [heap_grow_old _ _ (by simpa using hg)]
  simp [putRow, mapBlock, Sort.ahead, Array.getElem?_modify, hb, onCells]
theorem put_fr {w : World} {g n : Nat} {os : Array Obj} (d : Array Value) : Fr (fun k => k = g) w (grow (putRow id (Sort.ahead w n) g 0 d) os) := by
  refine ⟨rfl, rfl, rfl, by simp, fun k hk hne => ?_⟩
  rw [heap_grow_old _ _ (by simpa using hk)]
  have : g ≠ k := fun e => hne e.symm
  simp [putRow, mapBlock, Sort.ahead, Array.getElem?_modify, this]
theorem take_put (cur : Array Value) (ts : List Value) (h : ts.length ≤ cur.size) : (putCells id 0 ts.toArray cur).toList.take ts.length = ts := by
  apply List.ext_getElem?
  intro j
  by_cases hj : j < ts.length
  · rw [List.getElem?_take_of_lt hj, Array.getElem?_toList]
    simp [putCells, hj, show j < cur.size by omega]
  · rw [List.getElem?_take_eq_none (by omega), List.getElem?_eq_none (by omega)]
theorem Own.behind {w : World} {B : Nat} {e : TypeId} {sz g n cap m : Nat} {cs ts : List Value} {os : Array Obj} (h : Own w B e sz (.slice (some ⟨g, 0, none⟩) n cap) n cs) (hl : ts.length = n * sz) :
    Own (Go.Sort.grow (putRow id (Sort.ahead w m) g 0 ts.toArray) os) B e sz (.slice (some ⟨g, 0, none⟩) n cap) n ts := by
  rcases h.2 with ⟨h2, _⟩ | ⟨g', cap', cur, he, hb, hgg, hnc, hcm, hcs, htake⟩
  · cases h2
  · simp only [Value.slice.injEq, Option.some.injEq, Addr.mk.injEq, and_true, true_and] at he
    obtain ⟨rfl, rfl⟩ := he
    have hle : n * sz ≤ cap * sz := Nat.mul_le_mul_right _ hnc
    exact ⟨hl, .inr ⟨g, cap, _, rfl, hb, heap_put _ hgg, hnc, hcm, by simpa [putCells] using hcs, by rw [← hl]; exact take_put cur ts (by omega)⟩⟩
theorem Own.holds {w : World} {B : Nat} {e : TypeId} {sz g n cap : Nat} {cs : List Value} (h : Own w B e sz (.slice (some ⟨g, 0, none⟩) n cap) n cs) : Holds id w g 0 cs.toArray := by
  intro j hj
  have hj : j < cs.length := by simpa using hj
  refine ⟨?_, ?_⟩
  · have := World.ownsRow.cells (g := g) h rfl j cs[j] (by simp [hj])
    rw [Addr.add0] at this
    rw [Nat.zero_add, this]
    simp [hj]
  · rcases h.2 with ⟨h2, _⟩ | ⟨g', cap', cur, he, hb, hgg, _⟩
    · cases h2
    · simp only [Value.slice.injEq, Option.some.injEq, Addr.mk.injEq, and_true, true_and] at he
      obtain ⟨rfl, rfl⟩ := he
      simp [World.frozen?, hgg]
end Go.Proofs.YtmjpnfapjcfejaaDoor.VC

/- Maps from arrays of ints to bools that hold nothing but true. No condition. -/
namespace Go.Proofs.YtmjpnfapjcfejaaDoor.VC
open Go Go.RowKit Go.WideMaps
set_option linter.unusedSimpArgs false
set_option linter.unusedVariables false

/-- A map whose keys are ks; all values are true. -/
structure MapB (P : Program) (k : TypeId) (w : World) (b : Nat) (ks : List Value) : Prop where
  ex : ∃ es clock, w.heap[b]? = some (.map es clock) ∧ es.toList.map (·.key) = ks ∧ ∀ e ∈ es.toList, ∃ l, keyOf P k e.key = some l
section
variable {P : Program} {k : TypeId} {w w' : World} {b : Nat} {ks : List Value}
theorem MapB.lt (h : MapB P k w b ks) : b < w.heap.size := by
  obtain ⟨es, c, h1, _⟩ := h.ex
  exact (Array.getElem?_eq_some_iff.1 h1).1
theorem MapB.fr {S : Nat → Prop} (h : MapB P k w b ks) (hf : Fr S w w') (hs : ¬ S b) : MapB P k w' b ks := by
  have hlt := h.lt
  obtain ⟨es, c, h1, h2⟩ := h.ex
  exact ⟨es, c, (hf.block b hlt hs).trans h1, h2⟩
theorem MapB.grow (h : MapB P k w b ks) (hf : Grow w w') : MapB P k w' b ks := h.fr (Fr.of_grow (S := fun _ => False) hf) id
theorem MapB.make (t : TypeId) (w : World) {K : Value → World → Prop} (hk : ∀ w', w' = w.alloc (.map #[] 0) → MapB P k w' w.heap.size [] → Grow w w' → w'.heap.size = w.heap.size + 1 → K (.map (some w.heap.size)) w') :
    ∃ v : Value, ∃ w' : World, (Instr.makeMap t none).run P w = .ok v w' ∧ K v w' := by
  refine ⟨_, _, run_makeMap t w, hk _ rfl ⟨#[], 0, heap_alloc_new w _, rfl, by simp⟩ ((Grow.refl w).alloc _) (by simp)⟩
/-- What is not in it reads as false. -/
theorem MapB.no (K : KeyLaw P k) {t et : TypeId} {i : TypeInfo} (ht : P.underlying t = some (.map k et)) (hi : P.info? et = some i) (hz : i.zero = some (.bool false)) (h : MapB P k w b ks) {x : Value} {l : Lit} (hx : keyOf P k x = some l) (hn : x ∉ ks) :
    (Instr.lookup t (.map (some b)) x false).run P w = .ok (.bool false) w := by
  obtain ⟨es, c, h1, h2, h3⟩ := h.ex
  have hzr : (zeroValue et).run P w = .ok (.bool false) w := by simp [zeroValue, typeInfo, hi, hz]
  rcases K.find w hx es.toList h3 with ⟨h4, h5⟩ | ⟨j, e, h4, h5, h6⟩
  · simp only [Instr.lookup, Sem.run_bind, underlying_run ht, Result.andThen_ok, MapKept.run_getObj_map h1, Sem.run_pure, K.check w _ hx, h4, hzr]
    rfl
  · exact absurd (h6 ▸ h2 ▸ List.mem_map_of_mem (List.mem_of_getElem? h5)) hn
theorem MapB.add (K : KeyLaw P k) {t et : TypeId} (ht : P.underlying t = some (.map k et)) (h : MapB P k w b ks) {x : Value} {l : Lit} (hx : keyOf P k x = some l) (hn : x ∉ ks) :
    ∃ w', (Instr.mapUpdate t (.map (some b)) x (.bool true)).run P w = .ok () w' ∧ MapB P k w' b (ks ++ [x]) ∧ Fr (fun q => q = b) w w' := by
  have hlt := h.lt
  obtain ⟨es, c, h1, h2, h3⟩ := h.ex
  have fr : ∀ o, Fr (fun q => q = b) w { w with heap := w.heap.setIfInBounds b o } := fun o => ⟨rfl, rfl, rfl, by simp, fun q _ hq => Array.getElem?_setIfInBounds_ne fun e => hq e.symm⟩
  have at_ : ∀ o, (w.heap.setIfInBounds b o)[b]? = some o := fun o => by simp [Array.getElem?_setIfInBounds, hlt]
  rcases K.find w hx es.toList h3 with ⟨h4, h5⟩ | ⟨j, e, h4, h5, h6⟩
  · refine ⟨_, ?_, ⟨_, _, at_ (.map (es.push { key := x, val := .bool true, born := c }) (c + 1)), by simp [h2], fun e he => ?_⟩, fr _⟩
    · simp [Instr.mapUpdate, underlying_run ht, MapKept.run_getObj_map h1, K.check w _ hx, h4, MapKept.run_setObj_map _ h1]
    · rw [Array.toList_push] at he
      rcases List.mem_append.1 he with he | he
      · exact h3 e he
      · have : e = { key := x, val := .bool true, born := c } := by simpa using he
        subst this; exact ⟨l, hx⟩
  · exact absurd (h6 ▸ h2 ▸ List.mem_map_of_mem (List.mem_of_getElem? h5)) hn
end
/-- Eight ints as a key. -/
theorem keyOf_eight {P : Program} {k e : TypeId} (A : ArrKey P k e 8) (he : P.underlying e = some (.int .i64)) (hsz : ∃ m, P.types.size = m + 1) {xs : List Int} (hl : xs.length = 8) (hw : ∀ x ∈ xs, (Lit.int .i64 x).wf = true) :
    ∃ l, keyOf P k (.agg (xs.map encI).toArray) = some l := by
  match xs, hl with
  | [a, b, c, d, f, g, h, i], _ =>
    have w0 := hw a (by simp)
    have w1 := hw b (by simp)
    have w2 := hw c (by simp)
    have w3 := hw d (by simp)
    have w4 := hw f (by simp)
    have w5 := hw g (by simp)
    have w6 := hw h (by simp)
    have w7 := hw i (by simp)
    have hkt := A.keyType hsz
    obtain ⟨m, hm⟩ := hsz
    unfold keyOf
    simp only [A.hu]
    rw [if_pos (by simp [hkt, Value.formed, A.hu, A.size]), hm]
    unfold Program.keyLits
    simp only [A.hu, Value.cells]
    rw [if_pos (by rw [A.size]; rfl), show List.range 8 = [0, 1, 2, 3, 4, 5, 6, 7] from rfl]
    simp only [List.mapM_cons, List.mapM_nil]
    simp [A.one, Program.keyLits, he, w0, w1, w2, w3, w4, w5, w6, w7, encI]
end Go.Proofs.YtmjpnfapjcfejaaDoor.VC

/- Contracts: the copies that the statements make of queries and facts. No condition. -/
namespace Go.Proofs.YtmjpnfapjcfejaaDoor
open Go Go.RowKit VC
set_option linter.unusedSimpArgs false
set_option linter.unusedVariables false

def trA (a : Atm) : Atm := (a.1, a.2.take 9)
def trF (l : List Atm) : List Atm := (l.take 26).map trA
def trB (l : List Atm) : List Atm := (l.take 7).map trA
theorem el_fact : ElT Tryd.prog 23 57 2 32 (.agg #[.int .i64 0, .slice none 0 0]) := ⟨by kernel_rfl, ⟨Tryd.t57, by kernel_rfl, by kernel_rfl, by kernel_rfl, by kernel_rfl⟩, rfl⟩
theorem el_atom : ElT Tryd.prog 32 70 2 32 (.agg #[.int .i64 0, .slice none 0 0]) := ⟨by kernel_rfl, ⟨Tryd.t70, by kernel_rfl, by kernel_rfl, by kernel_rfl, by kernel_rfl⟩, rfl⟩
abbrev OwnF (w : World) (B : Nat) (v : Value) (l : List Atm) : Prop := OwnX (fun b => b < B) 2 repA w B 57 v l
abbrev OwnA (w : World) (B : Nat) (v : Value) (l : List Atm) : Prop := OwnX (fun b => b < B) 2 repA w B 70 v l
/-- A record of an int and of a slice of the call's own that is newer than out's array. -/
theorem elx_own {T : Nat → Prop} {w : World} {B : Nat} {r : Int} {v out : Value} {xs : List Int} (ho : OwnI w B v xs) (hT : ∀ b, T b → b < B) (hout : ∀ b, out.ownBlock = some b → b < B) : ElX T 2 repA out w ([.int .i64 r, v], (r, xs)) := by
  refine ⟨rfl, ?_, fun w' hf => ⟨v, rfl, (Own.fr ho hf fun k hk e => ?_).slI⟩⟩
  · intro u hu
    simp at hu
    rcases hu with rfl | rfl
    · rfl
    · exact (Own.one ho).2
  · have h2 := (Own.lt ho hk).1
    rcases e with e | e
    · have := hT k e; omega
    · have h1 := hout k e.symm
      omega
theorem few_c {w : World} {v : Value} {xs : List Int} (hs : SlI w v xs) : Calls Tryd.prog 33 #[v] w fun e w' => ∃ v', e = .returned v' ∧ OwnI w' w.heap.size v' (xs.take 9) ∧ Grow w w' := by
  refine f33_calls _ ?_
  have hle := hs.len_le
  have e : (if 9 < (xs.length : Int) then (9 : Int) else xs.length) = ((min 9 xs.length : Nat) : Int) := by split <;> omega
  refine hs.ln ?_
  rw [e]
  have e2 : xs.take (min 9 xs.length) = xs.take 9 := by
    rcases Nat.lt_or_ge 9 xs.length with h | h
    · rw [Nat.min_eq_left (by omega)]
    · rw [Nat.min_eq_right h, List.take_length, List.take_of_length_le h]
  obtain ⟨a, n, c, e1, l, h, m, h2, hv'⟩ := hs.upto (i := min 9 xs.length) (k := .i64) (K := fun x => SlI w x (xs.take 9)) rfl (by omega) fun v' hv' => by rwa [e2] at hv'
  refine ⟨a, n, c, e1, l, h, m, h2, (clone_c hv' (by simp; omega)).mono ?_⟩
  rintro e w1 ⟨u, rfl, ho, g1⟩
  exact ⟨u, rfl, u, rfl, ho, g1⟩
theorem trF_succ {l : List Atm} {k : Nat} (hk : k < l.length) : (l.take (k + 1)).map trA = (l.take k).map trA ++ [trA l[k]] := by rw [List.take_succ_eq_append_getElem hk, List.map_append]; rfl
theorem OwnA.mono {w : World} {B B' : Nat} {v : Value} {l : List Atm} (h : OwnA w B v l) (hB : B' ≤ B) : OwnA w B' v l := (OwnX.base h hB).weaken fun b hb => Nat.lt_of_lt_of_le hb hB
theorem OwnF.mono {w : World} {B B' : Nat} {v : Value} {l : List Atm} (h : OwnF w B v l) (hB : B' ≤ B) : OwnF w B' v l := (OwnX.base h hB).weaken fun b hb => Nat.lt_of_lt_of_le hb hB
/-- Between the rounds of Of. -/
structure OfI (w9 : World) (C : Nat) (hv : Value) (l : List Atm) (k : Nat) (w' : World) (bv : Value) : Prop where
  rc : RecV w' C [hv, bv]
  own : OwnA w' w9.heap.size bv ((l.take k).map trA)
  fr : Fr (fun i => i = C) w9 w'
/-- The copy of a query. -/
theorem of_c {w : World} {hv v : Value} {h : List Int} {l : List Atm} (hh : SlI w hv h) (hs : SlA w v l) : Calls Tryd.prog 9 #[.agg #[hv, v]] w fun e w' => ∃ hv' v', e = .returned (.agg #[hv', v']) ∧ OwnI w' w.heap.size hv' (h.take 9) ∧ OwnA w' w.heap.size v' (trB l) ∧ Grow w w' ∧ ∀ k, hv'.ownBlock = some k → v'.ownBlock ≠ some k := by
  refine f9_calls _ ?_
  have hle := SlX.len_le hs
  refine ⟨_, rfl, fun w1 hw1 w3 hw3 => ?_⟩
  have g1 := alloc_grow hw1
  have g3 := alloc_grow hw3
  have s1 := alloc_size hw1
  have s3 := alloc_size hw3
  have hR := RecV.new hw3
  have hq := (RecV.new hw1).grow g3
  refine ⟨_, hq.cell (j := 0) rfl, (few_c (hh.grow (g1.trans g3))).mono ?_⟩
  rintro e w5 ⟨hv', rfl, ho5, g5⟩
  refine ⟨hv', rfl, Own.one ho5, fun w8 hw8 => RecV.init (cs := [hv', .slice none 0 0]) hw8 rfl (by
    intro u hu
    simp at hu
    rcases hu with rfl | rfl
    · exact (Own.one ho5).2
    · rfl) fun w9 g9 s9 hC => ?_⟩
  have g39 := g5.trans g9
  have g09 := (g1.trans g3).trans g39
  refine ⟨_, (hq.grow g39).cell (j := 1) rfl, SlX.ln (hs.gr g09) ?_⟩
  have hs5 := g5.size
  have hs9 := g9.size
  have fin : ∀ {k w' bv}, (l.take k).map trA = trB l → OfI w9 w5.heap.size hv' l k w' bv → ∃ cs : List Value, cs.length = 2 ∧ (∀ (j : Nat) (u : Value), cs[j]? = some u → w'.cell? (Addr.add ⟨w5.heap.size, 0, none⟩ j) = some u) ∧ ∃ cs' : Array Value, (Value.agg cs.toArray) = Value.agg cs' ∧ cs'.size = 2 ∧
      ∃ w2 : World, (storeCells ⟨w1.heap.size, 0, none⟩ cs'.toList).run Tryd.prog w' = .ok () w2 ∧ ∃ ds : List Value, ds.length = 2 ∧ (∀ (j : Nat) (u : Value), ds[j]? = some u → w2.cell? (Addr.add ⟨w1.heap.size, 0, none⟩ j) = some u) ∧
        ∃ hv2 v2, Ending.returned (.agg ds.toArray) = .returned (.agg #[hv2, v2]) ∧ OwnI w2 w.heap.size hv2 (h.take 9) ∧ OwnA w2 w.heap.size v2 (trB l) ∧ Grow w w2 ∧ ∀ k, hv2.ownBlock = some k → v2.ownBlock ≠ some k := fun {k w' bv} hk hI => by
    have hfr := hI.fr
    have hR' : RecV w' w1.heap.size _ := (hR.grow g39).fr hfr (by omega)
    refine ⟨[hv', bv], rfl, hI.rc.all, ?_⟩
    refine RecV.store (cs := [hv', bv]) hR' rfl (by
      intro u hu
      simp at hu
      rcases hu with rfl | rfl
      · exact (Own.one ho5).2
      · exact hI.own.one.2) fun w2 hf hr => ⟨[hv', bv], rfl, hr.all, hv', bv, rfl, ?_, ?_, ?_, fun k hk e => by have := (Own.lt ho5 hk).2; have := (hI.own.lt e).1; omega⟩
    · refine Own.mono (Own.fr (Own.fr (Own.grow ho5 g9) hfr fun b hb e => ?_) hf fun b hb e => ?_) (by omega)
      · have := Own.lt ho5 hb; omega
      · have := Own.lt ho5 hb; omega
    · rw [← hk]
      refine OwnA.mono (OwnX.fr hI.own hf (fun b hb => ?_) fun b hb e => ?_) (by omega)
      · show b < w9.heap.size
        omega
      · have := (hI.own.lt hb).1; omega
    · exact (g09.fr hfr fun i hi e => by omega).fr hf fun i hi e => by omega
  refine ⟨fun t w' => ∃ (k : Nat) (bv : Value), t = k ∧ k ≤ l.length ∧ k ≤ 7 ∧ OfI w9 w5.heap.size hv' l k w' bv, fun t _ => l.length - t.toNat, ⟨0, _, rfl, by omega, by omega, hC, OwnX.nil _ _ _, Fr.refl _ _⟩, ?_⟩
  rintro - t w19 ⟨k, bv, rfl, hk, hk7, hI⟩
  have gI : Grow w w19 := g09.fr hI.fr fun i hi e => by omega
  refine condD (fun hlt => ?_) (fun hge => ?_)
  · have hkl : k < l.length := by omega
    refine SlX.loc (hs.gr gI) rfl hkl rfl fun w25 u g25 _ hu c0 c1 => ?_
    have hI25 : OfI w9 w5.heap.size hv' l k w25 bv := ⟨hI.rc.grow g25, hI.own.grow g25, hI.fr.trans (Fr.of_grow g25)⟩
    refine condD (fun h6 => fin ?_ hI25) fun h6 m => ?_
    · have : k = 7 := by omega
      subst this; rfl
    · have gm : Grow w25 (dr w25 m) := (Grow.refl w25).dr m
      have hf9 := hI25.fr.size
      have hbl : ∀ b, bv.ownBlock = some b → b < w25.heap.size := fun b hb => (hI25.own.lt hb).2
      have leaf : ∀ {E v'}, OwnI E (dr w25 m).heap.size v' ((l[k]).2.take 9) → Grow (dr w25 m) E → ∃ t : Value, ∃ w' : World, (Instr.buildSlice 32 1 #[(0, .agg #[.int .i64 (l[k]).1, v'])]).run Tryd.prog E = .ok t w' ∧ (w'.cell? (Addr.add ⟨w5.heap.size, 0, none⟩ 1) = some bv ∧
          PApp Tryd.prog 32 32 bv t w' fun v2 w2 => oneV v2 ∧ (∃ old, w2.cell? (Addr.add ⟨w5.heap.size, 0, none⟩ 1) = some old) ∧ w2.frozen? (Addr.add ⟨w5.heap.size, 0, none⟩ 1) = false ∧ ∀ w4, w4 = w2.setCell (Addr.add ⟨w5.heap.size, 0, none⟩ 1) v2 →
            inR ((k : Int) + 1) ∧ ((∃ (k' : Nat) (bv : Value), (k : Int) + 1 = k' ∧ k' ≤ l.length ∧ k' ≤ 7 ∧ OfI w9 w5.heap.size hv' l k' w4 bv) ∧ l.length - Int.toNat ((k : Int) + 1) < l.length - Int.toNat (k : Int))) := fun {E v'} ho gE => by
        have gE' := gm.trans gE
        refine bs1 el_atom (by omega) (by omega) (cs := #[.int .i64 (l[k]).1, v']) rfl E fun w' hw' => ⟨((hI25.rc.grow gE').grow (alloc_grow hw')).cell rfl, ?_⟩
        refine pappX1 el_atom (by omega) (cs := [.int .i64 (l[k]).1, v']) (y := trA l[k]) (hI25.own.grow gE') hw' (elx_own ho (fun b hb => Nat.lt_of_lt_of_le hb hf9) hbl) (by have := gE'.size; omega) (by simp; omega) (by omega) ?_
        intro v2 w2 ho2 hf2 _ hblk
        have hCne : ∀ (k : Nat), k = w5.heap.size → ¬ some k = bv.ownBlock := fun b e e2 => by
          have := (hI25.own.lt e2.symm).1; omega
        have hC2 : RecV w2 w5.heap.size [hv', bv] := ((hI25.rc.grow gE').grow (alloc_grow hw')).fr hf2 (hCne _ rfl)
        refine ⟨ho2.one, ⟨_, hC2.cell (j := 1) rfl⟩, hC2.free 1, fun w4 hw4 => ⟨by unfold inR; omega, ⟨k + 1, v2, by omega, by omega, by omega, hC2.set hw4, ?_, ?_⟩, by omega⟩⟩
        · rw [trF_succ hkl]
          refine OwnX.fr ho2 (RecV.set_fr hw4) (fun b hb => ?_) fun b hb e => ?_
          · show b < w9.heap.size
            omega
          · have := (ho2.lt hb).1; omega
        · refine Fr.trans (b := w2) (Fr.mono (S := fun i => w9.heap.size ≤ i ∨ i = w5.heap.size) ((hI25.fr.mono fun i _ e => .inr e).trans ((Fr.of_grow (gE'.trans (alloc_grow hw'))).trans (hf2.mono fun i _ e => .inl ?_))) fun i hi e => ?_) (RecV.set_fr hw4)
          · exact (hI25.own.lt e.symm).1
          · rcases e with e | e
            · omega
            · exact e
      have call : ∀ {Q : Ending → World → Prop}, (∀ v' E, OwnI E (dr w25 m).heap.size v' ((l[k]).2.take 9) → Grow (dr w25 m) E → Q (.returned v') E) → Calls Tryd.prog 33 #[u] (dr w25 m) Q := fun hq => (few_c (hu.dr m)).mono (by
        rintro e E ⟨v', rfl, ho, gE⟩
        exact hq v' E ho gE)
      have cC : ∀ {E}, Grow (dr w25 m) E → E.cell? (Addr.add ⟨w5.heap.size, 0, none⟩ 1) = some bv := fun g => (hI25.rc.grow (gm.trans g)).cell (j := 1) rfl
      have k0 : ∀ {E}, Grow (dr w25 m) E → E.cell? (Addr.add ⟨w19.heap.size, 0, none⟩ 0) = some (.int .i64 (l[k]).1) := fun g => (gm.trans g).cell c0
      have k1 : ∀ {E}, Grow (dr w25 m) E → E.cell? (Addr.add ⟨w19.heap.size, 0, none⟩ 1) = some u := fun g => (gm.trans g).cell c1
      repeat' first
        | exact Own.one ‹_›
        | refine And.intro ?_ ?_
        | refine ⟨_, cC (Grow.refl _), ?_⟩
        | refine ⟨_, k0 (Grow.refl _), ?_⟩
        | refine ⟨_, k1 (Grow.refl _), ?_⟩
        | refine ⟨_, cC ‹Grow (dr w25 m.1) _›, ?_⟩
        | refine ⟨_, k0 ‹Grow (dr w25 m.1) _›, ?_⟩
        | (refine call ?_; intro v' E ho gE; refine ⟨v', rfl, ?_⟩)
        | (obtain ⟨t, w', a, b, c⟩ := leaf ‹_› ‹Grow (dr w25 m.1) _›; exact ⟨t, w', a, c⟩)
        | (obtain ⟨t, w', a, b, c⟩ := leaf ‹_› ‹Grow (dr w25 m.1) _›; exact ⟨t, w', a, _, b, c⟩)
  · have hkl : k = l.length := by omega
    subst hkl
    exact fin (by unfold trB; rw [List.take_length, List.take_of_length_le hk7]) hI
end Go.Proofs.YtmjpnfapjcfejaaDoor

/- The order of facts, and the function that compares them: what it leaves behind is told exactly, as sorting asks. No condition. -/
namespace Go.Proofs.YtmjpnfapjcfejaaDoor
open Go Go.RowKit VC
set_option linter.unusedSimpArgs false
set_option linter.unusedVariables false

/-! ## The order -/
theorem cmpI_zero {x y : Int} : cmpI x y = 0 ↔ x = y := by unfold cmpI; split <;> (try split) <;> omega
theorem cmpI_swap (x y : Int) : cmpI y x = - cmpI x y := by unfold cmpI; split <;> split <;> (try split) <;> omega
theorem cmpL_zero : ∀ {xs ys : List Int}, cmpL xs ys = 0 ↔ xs = ys
  | [], [] => by simp [cmpL]
  | [], _ :: _ => by simp [cmpL]
  | _ :: _, [] => by simp [cmpL]
  | x :: r, y :: s => by
    rw [cmpL]
    by_cases h : cmpI x y = 0
    · rw [if_pos h, cmpL_zero, cmpI_zero.1 h]; simp
    · rw [if_neg h]
      have : ¬ x = y := fun e => h (cmpI_zero.2 e)
      simp [h, this]
theorem cmpL_swap : ∀ (xs ys : List Int), cmpL ys xs = - cmpL xs ys
  | [], [] => rfl
  | [], _ :: _ => rfl
  | _ :: _, [] => rfl
  | x :: r, y :: s => by
    rw [cmpL, cmpL, cmpI_swap x y]
    by_cases h : cmpI x y = 0
    · rw [if_pos h, if_pos (by omega), cmpL_swap r s]
    · rw [if_neg h, if_neg (by omega)]
/-! ## What is left behind -/
end Go.Proofs.YtmjpnfapjcfejaaDoor

/- Plain: rising lists, each once; matches of a query. No program. No condition. -/
namespace Go.Proofs.YtmjpnfapjcfejaaDoor
set_option linter.unusedSimpArgs false
set_option linter.unusedVariables false

/-! ## Rising lists -/
section
variable {α : Type} (key : α → List Int)
variable {key}
end
/-! ## Values, and what fits -/
abbrev Vals := List Int
def ofV (m : Vals) (x : Int) : Int := if x < 0 then -x else m.getD x.toNat 0
def imgA (m : Vals) (a : Atm) : Atm := (a.1, a.2.map (ofV m))
def fitL : Vals → List Int → List Int → Option Vals
  | m, [], [] => some m
  | m, x :: xs, y :: ys => if ofV m x = 0 then fitL (m.set x.toNat y) xs ys else if ofV m x = y then fitL m xs ys else none
  | _, _, _ => none
def fitA (m : Vals) (a f : Atm) : Option Vals := if a.1 = f.1 then fitL m a.2 f.2 else none
def stepM (fs : List Atm) (ms : List Vals) (a : Atm) : List Vals := ms.flatMap fun m => fs.filterMap (fitA m a)
def zeroV : Vals := [0, 0, 0, 0, 0, 0, 0, 0]
/-- n knows what m knows, and the variables of xs. -/
structure Ext (m n : Vals) (xs : List Int) : Prop where
  len : n.length = 8
  dom : ∀ i, i < 8 → (n.getD i 0 ≠ 0 ↔ m.getD i 0 ≠ 0 ∨ (i : Int) ∈ xs)
  old : ∀ i, i < 8 → m.getD i 0 ≠ 0 → n.getD i 0 = m.getD i 0
theorem vals_ext {m n : Vals} (h1 : m.length = 8) (h2 : n.length = 8) (h : ∀ i, i < 8 → m.getD i 0 = n.getD i 0) : m = n := by
  apply List.ext_getElem (by omega)
  intro i hi hj
  have := h i (by omega)
  simpa [List.getD, hi, hj] using this
theorem Ext.nil {m n : Vals} (h : m.length = 8) : Ext m n [] ↔ n = m := by
  constructor
  · intro hE
    refine vals_ext hE.len h fun i hi => ?_
    by_cases h0 : m.getD i 0 = 0
    · have := hE.dom i hi
      simp only [h0] at this ⊢
      simpa using this
    · exact hE.old i hi h0
  · rintro rfl
    exact ⟨h, fun i _ => by simp, fun i _ _ => rfl⟩
theorem ofV_ext {m n : Vals} {xs : List Int} (h : Ext m n xs) {x : Int} (hx : x ≤ 7) (hk : ofV m x ≠ 0) : ofV n x = ofV m x := by
  unfold ofV at *
  split
  · rfl
  · rename_i h0
    rw [if_neg h0] at hk
    exact h.old _ (by omega) hk
theorem getD_set (m : Vals) {k i : Nat} (hk : k < m.length) (y : Int) : (m.set k y).getD i 0 = if i = k then y else m.getD i 0 := by
  simp only [List.getD, List.getElem?_set]
  by_cases h : k = i
  · subst h; simp [hk]
  · rw [if_neg h, if_neg (fun e => h e.symm)]
theorem fitL_iff : ∀ {xs ys : List Int} {m n : Vals}, m.length = 8 → (∀ x ∈ xs, -9 ≤ x ∧ x ≤ 7) → (∀ y ∈ ys, (1 : Int) ≤ y) → (fitL m xs ys = some n ↔ Ext m n xs ∧ xs.map (ofV n) = ys)
  | [], [], m, n, h8, _, _ => by
    rw [fitL, Ext.nil h8]
    simp [eq_comm]
  | [], y :: ys, m, n, h8, _, _ => by simp [fitL]
  | x :: xs, [], m, n, h8, _, _ => by simp [fitL]
  | x :: xs, y :: ys, m, n, h8, hx, hy => by
    have hx0 := hx x (List.mem_cons_self ..)
    have hy0 := hy y (List.mem_cons_self ..)
    have hxr := fun z hz => hx z (List.mem_cons_of_mem _ hz)
    have hyr := fun z hz => hy z (List.mem_cons_of_mem _ hz)
    rw [fitL]
    split
    · rename_i h0
      have hn : 0 ≤ x := by
        refine Classical.byContradiction fun hn => ?_
        unfold ofV at h0
        rw [if_pos (by omega)] at h0
        omega
      obtain ⟨k, rfl⟩ : ∃ k : Nat, x = k := ⟨x.toNat, by omega⟩
      have hk : k < 8 := by omega
      have hm0 : m.getD k 0 = 0 := by
        unfold ofV at h0
        rw [if_neg (by omega), Int.toNat_natCast] at h0
        exact h0
      rw [Int.toNat_natCast, fitL_iff (by simp [h8]) hxr hyr]
      have gs : ∀ i, (m.set k y).getD i 0 = if i = k then y else m.getD i 0 := fun i => getD_set m (by omega) y
      have key : Ext (m.set k y) n xs ↔ Ext m n (↑k :: xs) ∧ ofV n k = y := by
        have eo : ofV n (k : Int) = n.getD k 0 := by unfold ofV; rw [if_neg (by omega), Int.toNat_natCast]
        rw [eo]
        constructor
        · intro hE
          refine ⟨⟨hE.len, fun i hi => ?_, fun i hi h => ?_⟩, ?_⟩
          · rw [hE.dom i hi, gs i, List.mem_cons]
            by_cases e : i = k
            · subst e
              simp; omega
            · rw [if_neg e]
              constructor
              · rintro (h | h)
                · exact .inl h
                · exact .inr (.inr h)
              · rintro (h | h | h)
                · exact .inl h
                · omega
                · exact .inr h
          · have hne : i ≠ k := fun e => h (e ▸ hm0)
            have := hE.old i hi (by rw [gs, if_neg hne]; exact h)
            rwa [gs, if_neg hne] at this
          · have := hE.old k hk (by rw [gs, if_pos rfl]; omega)
            rwa [gs, if_pos rfl] at this
        · rintro ⟨hE, e⟩
          refine ⟨hE.len, fun i hi => ?_, fun i hi h => ?_⟩
          · rw [hE.dom i hi, gs i, List.mem_cons]
            by_cases e : i = k
            · subst e
              simp; omega
            · rw [if_neg e]
              constructor
              · rintro (h | h | h)
                · exact .inl h
                · omega
                · exact .inr h
              · rintro (h | h)
                · exact .inl h
                · exact .inr (.inr h)
          · rw [gs] at h ⊢
            by_cases e2 : i = k
            · subst e2; rw [if_pos rfl]; exact e
            · rw [if_neg e2] at h ⊢
              exact hE.old i hi h
      rw [key, List.map_cons, List.cons.injEq]
      exact ⟨fun ⟨⟨a, b⟩, c⟩ => ⟨a, b, c⟩, fun ⟨a, b, c⟩ => ⟨⟨a, b⟩, c⟩⟩
    · rename_i h0
      have kn : ∀ i : Nat, x = i → m.getD i 0 ≠ 0 := by
        rintro i rfl
        unfold ofV at h0
        rwa [if_neg (by omega), Int.toNat_natCast] at h0
      have key : Ext m n xs ↔ Ext m n (x :: xs) := by
        constructor
        · intro hE
          refine ⟨hE.len, fun i hi => (hE.dom i hi).trans ?_, hE.old⟩
          rw [List.mem_cons]
          constructor
          · rintro (h | h)
            · exact .inl h
            · exact .inr (.inr h)
          · rintro (h | h | h)
            · exact .inl h
            · exact .inl (kn i h.symm)
            · exact .inr h
        · intro hE
          refine ⟨hE.len, fun i hi => (hE.dom i hi).trans ?_, hE.old⟩
          rw [List.mem_cons]
          constructor
          · rintro (h | h | h)
            · exact .inl h
            · exact .inl (kn i h.symm)
            · exact .inr h
          · rintro (h | h)
            · exact .inl h
            · exact .inr (.inr h)
      split
      · rename_i h1
        rw [fitL_iff h8 hxr hyr, ← key, List.map_cons, List.cons.injEq]
        constructor
        · rintro ⟨a, b⟩
          exact ⟨a, (ofV_ext a hx0.2 h0).trans h1, b⟩
        · rintro ⟨a, b, c⟩
          exact ⟨a, c⟩
      · rename_i h1
        constructor
        · intro h; cases h
        · rintro ⟨a, b⟩
          rw [List.map_cons, List.cons.injEq] at b
          exact absurd ((ofV_ext a hx0.2 h0).symm.trans b.1) h1
/-- Facts: whose arguments are above zero. -/
def PosF (fs : List Atm) : Prop := ∀ f ∈ fs, ∀ y ∈ f.2, (1 : Int) ≤ y
def TermA (a : Atm) : Prop := ∀ x ∈ a.2, -9 ≤ x ∧ x ≤ 7
theorem fitA_iff {m n : Vals} {a f : Atm} (h8 : m.length = 8) (ha : TermA a) (hf : ∀ y ∈ f.2, (1 : Int) ≤ y) : fitA m a f = some n ↔ Ext m n a.2 ∧ imgA n a = f := by
  unfold fitA
  split
  · rename_i h
    rw [fitL_iff h8 ha hf]
    obtain ⟨r, ys⟩ := f
    constructor
    · rintro ⟨h1, h2⟩
      exact ⟨h1, by unfold imgA; rw [h2, h]⟩
    · rintro ⟨h1, h2⟩
      exact ⟨h1, by unfold imgA at h2; simp only [Prod.mk.injEq] at h2; exact h2.2⟩
  · rename_i h
    constructor
    · intro h; cases h
    · rintro ⟨h1, h2⟩
      exact absurd (by rw [← h2]; rfl) h
theorem mem_step {fs : List Atm} {ms : List Vals} {a : Atm} {n : Vals} (h8 : ∀ m ∈ ms, m.length = 8) (ha : TermA a) (hf : PosF fs) : n ∈ stepM fs ms a ↔ (∃ m ∈ ms, Ext m n a.2) ∧ imgA n a ∈ fs := by
  unfold stepM
  simp only [List.mem_flatMap, List.mem_filterMap]
  constructor
  · rintro ⟨m, hm, f, hff, h⟩
    obtain ⟨h1, h2⟩ := (fitA_iff (h8 m hm) ha (hf f hff)).1 h
    exact ⟨⟨m, hm, h1⟩, h2 ▸ hff⟩
  · rintro ⟨⟨m, hm, h1⟩, h2⟩
    exact ⟨m, hm, _, h2, (fitA_iff (h8 m hm) ha (hf _ h2)).2 ⟨h1, rfl⟩⟩
/-- A match of a body: eight numbers, 0 where the variable does not occur. -/
structure IsM (fs b : List Atm) (m : Vals) : Prop where
  len : m.length = 8
  dom : ∀ i, i < 8 → (m.getD i 0 ≠ 0 ↔ (i : Int) ∈ b.flatMap Prod.snd)
  hit : ∀ a ∈ b, imgA m a ∈ fs
theorem zero_get (i : Nat) : zeroV.getD i 0 = 0 := by
  rcases Nat.lt_or_ge i 8 with h | h
  · rcases i with _ | _ | _ | _ | _ | _ | _ | _ | i <;> first | rfl | omega
  · simp [zeroV, List.getD, h]
/-! ## No match comes twice -/
theorem step_nodup {fs : List Atm} {ms : List Vals} {a : Atm} (D : Nat → Prop) (h8 : ∀ m ∈ ms, m.length = 8 ∧ ∀ i, i < 8 → (m.getD i 0 ≠ 0 ↔ D i)) (hms : ms.Nodup) (ha : TermA a) (hf : PosF fs) (hfs : fs.Nodup) : (stepM fs ms a).Nodup := by
  unfold stepM
  have inner : ∀ m, m.length = 8 → (fs.filterMap (fitA m a)).Nodup := fun m hm => by
    have : ∀ (l : List Atm), (∀ f ∈ l, f ∈ fs) → l.Nodup → (l.filterMap (fitA m a)).Nodup := by
      intro l
      induction l with
      | nil => intro _ _; exact List.Pairwise.nil
      | cons f r ih =>
        intro hl hn
        obtain ⟨h1, h2⟩ := List.pairwise_cons.1 hn
        have ih := ih (fun g hg => hl g (List.mem_cons_of_mem _ hg)) h2
        rw [List.filterMap_cons]
        split
        · exact ih
        · rename_i n hn
          refine List.pairwise_cons.2 ⟨fun n' hn' e => ?_, ih⟩
          subst e
          obtain ⟨g, hg, hgn⟩ := List.mem_filterMap.1 hn'
          have e1 := ((fitA_iff hm ha (hf f (hl f (List.mem_cons_self ..)))).1 hn).2
          have e2 := ((fitA_iff hm ha (hf g (hl g (List.mem_cons_of_mem _ hg)))).1 hgn).2
          exact h1 g hg (e1.symm.trans e2)
    exact this fs (fun _ h => h) hfs
  have : ∀ (l : List Vals), (∀ m ∈ l, m ∈ ms) → l.Nodup → (l.flatMap fun m => fs.filterMap (fitA m a)).Nodup := by
    intro l
    induction l with
    | nil => intro _ _; exact List.Pairwise.nil
    | cons m r ih =>
      intro hl hn
      obtain ⟨h1, h2⟩ := List.pairwise_cons.1 hn
      have ih := ih (fun g hg => hl g (List.mem_cons_of_mem _ hg)) h2
      rw [List.flatMap_cons]
      have hm := h8 m (hl m (List.mem_cons_self ..))
      refine List.pairwise_append.2 ⟨inner m hm.1, ih, fun n hn n' hn' e => ?_⟩
      subst e
      obtain ⟨f, hff, h3⟩ := List.mem_filterMap.1 hn
      obtain ⟨m', hm', hn'⟩ := List.mem_flatMap.1 hn'
      obtain ⟨g, hgf, h4⟩ := List.mem_filterMap.1 hn'
      have hm2 := h8 m' (hl m' (List.mem_cons_of_mem _ hm'))
      have e1 := ((fitA_iff hm.1 ha (hf f hff)).1 h3).1
      have e2 := ((fitA_iff hm2.1 ha (hf g hgf)).1 h4).1
      refine h1 m' hm' (vals_ext hm.1 hm2.1 fun i hi => ?_)
      by_cases hD : D i
      · rw [← e1.old i hi ((hm.2 i hi).2 hD), ← e2.old i hi ((hm2.2 i hi).2 hD)]
      · have a1 : m.getD i 0 = 0 := by
          have : ¬ m.getD i 0 ≠ 0 := fun e => hD ((hm.2 i hi).1 e)
          simpa using this
        have a2 : m'.getD i 0 = 0 := by
          have : ¬ m'.getD i 0 ≠ 0 := fun e => hD ((hm2.2 i hi).1 e)
          simpa using this
        rw [a1, a2]
  exact this ms (fun _ h => h) hms
theorem step_dom {fs : List Atm} {ms : List Vals} {a : Atm} {D : Nat → Prop} (h8 : ∀ m ∈ ms, m.length = 8 ∧ ∀ i, i < 8 → (m.getD i 0 ≠ 0 ↔ D i)) (ha : TermA a) (hf : PosF fs) : ∀ n ∈ stepM fs ms a, n.length = 8 ∧ ∀ i, i < 8 → (n.getD i 0 ≠ 0 ↔ D i ∨ (i : Int) ∈ a.2) := fun n hn => by
  obtain ⟨⟨m, hm, h⟩, _⟩ := (mem_step (fun m hm => (h8 m hm).1) ha hf).1 hn
  exact ⟨h.len, fun i hi => (h.dom i hi).trans (or_congr_left ((h8 m hm).2 i hi))⟩
/-- What holds after the beginning b of a body. -/
structure StM (fs : List Atm) (b : List Atm) (ms : List Vals) : Prop where
  nodup : ms.Nodup
  dom : ∀ m ∈ ms, m.length = 8 ∧ ∀ i, i < 8 → (m.getD i 0 ≠ 0 ↔ (i : Int) ∈ b.flatMap Prod.snd)
theorem StM.zero (fs : List Atm) : StM fs [] [zeroV] := ⟨by simp, fun m hm => by
  simp at hm; subst hm
  exact ⟨rfl, fun i hi => by rw [zero_get]; simp⟩⟩
theorem StM.step {fs b : List Atm} {ms : List Vals} {a : Atm} (h : StM fs b ms) (ha : TermA a) (hf : PosF fs) (hfs : fs.Nodup) : StM fs (b ++ [a]) (stepM fs ms a) :=
  ⟨step_nodup _ h.dom h.nodup ha hf hfs, fun m hm => by
    obtain ⟨h1, h2⟩ := step_dom h.dom ha hf m hm
    refine ⟨h1, fun i hi => (h2 i hi).trans ?_⟩
    simp [List.flatMap_append]⟩
end Go.Proofs.YtmjpnfapjcfejaaDoor

/- Plain: all matches of a query, their number, its results; other facts. No program. No condition. -/
namespace Go.Proofs.YtmjpnfapjcfejaaDoor
set_option linter.unusedSimpArgs false
set_option linter.unusedVariables false

theorem IsM.sub {fs fs' b : List Atm} {m : Vals} (h : IsM fs b m) (hs : ∀ a ∈ b, imgA m a ∈ fs → imgA m a ∈ fs') : IsM fs' b m := ⟨h.len, h.dom, fun a ha => hs a ha (h.hit a ha)⟩
/-! ## Two bodies without common variables -/
end Go.Proofs.YtmjpnfapjcfejaaDoor

/- Contracts: what fits an atom, and all matches of a query. No condition. -/
namespace Go.Proofs.YtmjpnfapjcfejaaDoor
open Go Go.RowKit VC
set_option linter.unusedSimpArgs false
set_option linter.unusedVariables false

/-! ## Values in memory -/
def encV (m : Vals) : List Value := (List.range 8).map fun i => encI (m.getD i 0)
theorem encV_len (m : Vals) : (encV m).length = 8 := by simp [encV]
theorem encV_one (m : Vals) : ∀ u ∈ encV m, u.oneCell' = true := by
  intro u hu
  simp only [encV, List.mem_map] at hu
  obtain ⟨i, _, rfl⟩ := hu
  rfl
abbrev SlV (w : World) (v : Value) (ms : List Vals) : Prop := SlR encV w v ms
/-! ## What fits -/
/-! ## append of one record; where its array lies -/
end Go.Proofs.YtmjpnfapjcfejaaDoor

/- Contracts: all matches of a query. No condition. -/
namespace Go.Proofs.YtmjpnfapjcfejaaDoor
open Go Go.RowKit VC Go.WideMaps
set_option linter.unusedSimpArgs false
set_option linter.unusedVariables false

/-- A local copy of eight numbers. -/
theorem SlV.loc {P : Program} {w : World} {v : Value} {ms : List Vals} (h : SlV w v ms) {i : Nat} {j : Int} (hj : j = (i : Int)) (hi : i < ms.length) {zs : Array Value} (hz : zs.size = 8) {t : TypeId} {K : World → Prop}
    (hk : ∀ w2, Grow w w2 → w.heap.size < w2.heap.size → RecV w2 w.heap.size (encV ms[i]) → K w2) :
    ∃ (a : Addr) (m c : Nat), v = .slice (some a) m c ∧ ((0 : Int) ≤ j ∧ j < (m : Int)) ∧ ∃ cs : List Value, cs.length = 8 ∧ (∀ t u, cs[t]? = some u → w.cell? (Addr.add (a.add (Int.toNat j * 8)) t) = some u) ∧
      ∀ w1, w1 = w.alloc (.cells zs t) → ∃ cs' : Array Value, (Value.agg cs.toArray) = Value.agg cs' ∧ cs'.size = 8 ∧ ∃ w2 : World, (storeCells ⟨w.heap.size, 0, none⟩ cs'.toList).run P w1 = .ok () w2 ∧ K w2 := by
  refine SlR.rd h encV_len hj hi fun w1 hw1 => ?_
  have := RecV.init (P := P) (cs := encV ms[i]) hw1 (by rw [hz, encV_len]) (encV_one _) (K := K) hk
  rwa [hz] at this
end Go.Proofs.YtmjpnfapjcfejaaDoor

/- Contracts: results and their number. No condition. -/
namespace Go.Proofs.YtmjpnfapjcfejaaDoor
open Go Go.RowKit VC
set_option linter.unusedSimpArgs false
set_option linter.unusedVariables false

theorem okQ_len {h : List Int} {b : List Atm} (hq : okQ h b = true) : 1 ≤ b.length ∧ b.length ≤ 5 ∧ h.length ≤ 4 := by
  simp only [okQ, Bool.and_eq_true, decide_eq_true_eq] at hq
  exact ⟨hq.1.1.1.1, hq.1.1.1.2, hq.1.1.2⟩
theorem SlR.nil {α : Type} {f : α → List Value} (w : World) : SlR f w (.slice none 0 0) [] := SlC.nil w
end Go.Proofs.YtmjpnfapjcfejaaDoor

/- Contracts of the reference: what comes before, rising lists of slices, keys of facts, what fits. No condition. -/
namespace Go.Proofs.YtmjpnfapjcfejaaDoor
open Go Go.RowKit VC
set_option linter.unusedSimpArgs false
set_option linter.unusedVariables false

/-! ## Parts of a slice -/
section
variable {α : Type} {k : Nat} {rep : World → List Value → α → Prop}
theorem SlX.upto {w : World} {v : Value} {xs : List α} (h : SlX k rep w v xs) {i : Nat} {ik : IntKind} {z : Int} (hz : z = (i : Int)) (hi : i ≤ xs.length) {K : Value → Prop} (hk : ∀ v', SlX k rep w v' (xs.take i) → K v') :
    ∃ (a : Option Addr) (n c : Nat), v = .slice a n c ∧ ∃ l hh m : Nat, sbR none (some (.int ik z)) none n c l hh m ∧ K (.slice (if m = l then a else a.map (·.add (l * k))) (hh - l) (m - l)) := by
  subst hz
  obtain ⟨a, c, rfl, h1, h2, h3, h4⟩ := h.ex
  have hl : (xs.take i).length = i := by simp; omega
  refine ⟨a, _, c, rfl, 0, i, c, ⟨rfl, rfl, rfl, by simp, by omega, by omega, by omega⟩, hk _ ⟨a, c, ?_, by omega, h2, h3, fun j hj => ?_⟩⟩
  · rw [hl]
    by_cases hc : c = 0
    · simp [hc]
    · rw [if_neg hc]
      cases a <;> simp [Addr.add]
  · obtain ⟨b, cs, e1, e2, e3, e4⟩ := h4 j (by omega)
    exact ⟨b, cs, e1, e2, e3, by rw [List.getElem_take]; exact e4⟩
theorem SlX.from_ {w : World} {v : Value} {xs : List α} (h : SlX k rep w v xs) {i : Nat} {ik : IntKind} {z : Int} (hz : z = (i : Int)) (hi : i ≤ xs.length) {K : Value → Prop} (hk : ∀ v', SlX k rep w v' (xs.drop i) → K v') :
    ∃ (a : Option Addr) (n c : Nat), v = .slice a n c ∧ ∃ l hh m : Nat, sbR (some (.int ik z)) none none n c l hh m ∧ K (.slice (if m = l then a else a.map (·.add (l * k))) (hh - l) (m - l)) := by
  subst hz
  obtain ⟨a, c, rfl, h1, h2, h3, h4⟩ := h.ex
  have hl : (xs.drop i).length = xs.length - i := by simp
  refine ⟨a, _, c, rfl, i, xs.length, c, ⟨rfl, rfl, rfl, by simp, by omega, by omega, by omega⟩, hk _ ⟨if c = i then a else a.map (·.add (i * k)), c - i, by rw [hl], by omega, by omega, ?_, fun j hj => ?_⟩⟩
  · intro hn
    split at hn
    · rename_i hc; omega
    · have : a = none := by cases a <;> simp at hn ⊢
      have := h3 this; omega
  · obtain ⟨b, cs, e1, e2, e3, e4⟩ := h4 (i + j) (by omega)
    refine ⟨b.add (i * k), cs, ?_, e2, fun t u ht => ?_, by rw [List.getElem_drop]; exact e4⟩
    · rw [if_neg (by omega), e1]; rfl
    · rw [add_add, ← Nat.add_assoc, ← Nat.add_mul]
      exact e3 t u ht
end
/-! ## Put -/
theorem SlX.imp {α : Type} {k : Nat} {rep rep' : World → List Value → α → Prop} {w : World} {v : Value} {xs : List α} (h : SlX k rep w v xs) (hi : ∀ cs x, rep w cs x → rep' w cs x) : SlX k rep' w v xs := by
  obtain ⟨a, c, e, h1, h2, h3, h4⟩ := h.ex
  exact ⟨a, c, e, h1, h2, h3, fun i hi' => by
    obtain ⟨b, cs, e1, e2, e3, e4⟩ := h4 i hi'
    exact ⟨b, cs, e1, e2, e3, hi _ _ e4⟩⟩
/-! ## Keys of facts -/
end Go.Proofs.YtmjpnfapjcfejaaDoor

/- Contracts of the reference: what fits. No condition. -/
namespace Go.Proofs.YtmjpnfapjcfejaaDoor
open Go Go.RowKit VC
set_option linter.unusedSimpArgs false
set_option linter.unusedVariables false

/-- The end of a slice of ints. -/
theorem SlI.from_ {w : World} {v : Value} {xs : List Int} (h : SlI w v xs) {i : Nat} {ik : IntKind} {z : Int} (hz : z = (i : Int)) (hi : i ≤ xs.length) {K : Value → Prop} (hk : ∀ v', SlI w v' (xs.drop i) → K v') :
    ∃ (a : Option Addr) (n c : Nat), v = .slice a n c ∧ ∃ l hh m : Nat, sbR (some (.int ik z)) none none n c l hh m ∧ K (.slice (if m = l then a else a.map (·.add (l * 1))) (hh - l) (m - l)) := by
  subst hz
  obtain ⟨a, c, rfl, h1, h2, h3, h4⟩ := h.ex
  have hl : (xs.drop i).length = xs.length - i := by simp
  refine ⟨a, _, c, rfl, i, xs.length, c, ⟨rfl, rfl, rfl, by simp, by omega, by omega, by omega⟩, hk _ ?_⟩
  unfold SlI
  rw [hl]
  refine ⟨if c = i then a else a.map (·.add (i * 1)), c - i, rfl, by omega, by omega, ?_, fun j u hj => ?_⟩
  · intro hn
    split at hn
    · rename_i hc; omega
    · have : a = none := by cases a <;> simp at hn ⊢
      have := h3 this; omega
  · have hj2 : (xs.map encI)[i + j]? = some u := by
      rw [List.map_drop, List.getElem?_drop] at hj
      exact hj
    have hlt := (List.getElem?_eq_some_iff.1 hj2).1
    simp at hlt
    obtain ⟨b, rfl, hc⟩ := h4 (i + j) u hj2
    refine ⟨b.add (i * 1), ?_, ?_⟩
    · rw [if_neg (by omega)]; rfl
    · rw [add_add, Nat.mul_one]; exact hc
theorem set_same {m : Vals} {k : Nat} {y : Int} (hk : k < m.length) (h : m.getD k 0 = y) : m.set k y = m := by
  apply List.ext_getElem (by simp)
  intro i h1 h2
  rw [List.getElem_set]
  split
  · rename_i e
    subst e
    rw [← h]; simp [List.getD, hk]
  · rfl
end Go.Proofs.YtmjpnfapjcfejaaDoor

/- Contracts: the reference's results, equal rows, a fact is matched; the copies that the statements make. No condition. -/
namespace Go.Proofs.YtmjpnfapjcfejaaDoor
open Go Go.RowKit VC
set_option linter.unusedSimpArgs false
set_option linter.unusedVariables false

/-! ## Equal rows -/
/-! ## A fact is matched -/
theorem slI_lit {w w' : World} {cs : Array Value} {xs : List Int} {e : TypeId} (hw : w' = w.alloc (.cells cs e)) (hc : cs.toList = xs.map VC.encI) (hl : xs.length ≤ 1000) : SlI w' (.slice (some ⟨w.heap.size, 0, none⟩) xs.length xs.length) xs := by
  have h := Own.lit (B := w.heap.size) (n := xs.length) (sz := 1) hw (Nat.le_refl _) (by omega) (by
    rw [← Array.length_toList, hc]; simp)
  rw [hc] at h
  exact Own.slI h
/-! ## The copies say the same -/
theorem trA_id {a : Atm} (h : a.2.length ≤ 9) : trA a = a := by
  unfold trA
  rw [List.take_of_length_le h]
theorem trA_len {a : Atm} (h : (trA a).2.length ≤ 3) : a.2.length ≤ 3 := by
  unfold trA at h
  simp only [List.length_take] at h
  omega
theorem map_trA {l : List Atm} (h : ∀ a ∈ l, a.2.length ≤ 9) : l.map trA = l := by
  conv => rhs; rw [← List.map_id l]
  exact List.map_congr_left fun a ha => trA_id (h a ha)
theorem trB_of {h : List Int} {b : List Atm} (hq : okQ h b = true) : trB b = b ∧ h.take 9 = h := by
  obtain ⟨h1, h2, h3⟩ := okQ_len hq
  have hb : ∀ a ∈ b, a.2.length ≤ 9 := fun a ha => by
    simp only [okQ, Bool.and_eq_true, List.all_eq_true] at hq
    have := (okA_iff.1 (hq.1.2 a ha)).2.2.2.1
    omega
  exact ⟨by unfold trB; rw [List.take_of_length_le (by omega), map_trA hb], List.take_of_length_le (by omega)⟩
theorem okQ_tr (h : List Int) (b : List Atm) : okQ (h.take 9) (trB b) = okQ h b := by
  rw [Bool.eq_iff_iff]
  constructor
  · intro hq
    have h0 := hq
    obtain ⟨h1, h2, h3⟩ := okQ_len hq
    have hbl : b.length ≤ 5 := by unfold trB at h2; simp at h2; omega
    have hhl : h.length ≤ 4 := by simp at h3; omega
    have hb : ∀ a ∈ b, a.2.length ≤ 9 := fun a ha => by
      simp only [okQ, Bool.and_eq_true, List.all_eq_true] at hq
      have hm : trA a ∈ trB b := List.mem_map_of_mem (by rw [List.take_of_length_le (by omega)]; exact ha)
      have := trA_len (okA_iff.1 (hq.1.2 _ hm)).2.2.2.1
      omega
    have e1 : trB b = b := by unfold trB; rw [List.take_of_length_le (by omega), map_trA hb]
    rwa [e1, List.take_of_length_le (by omega)] at h0
  · intro hq
    obtain ⟨e1, e2⟩ := trB_of hq
    rwa [e1, e2]
theorem trF_of {l : List Atm} (hf : okFs l = true) : trF l = l := by
  simp only [okFs, Bool.and_eq_true, decide_eq_true_eq, List.all_eq_true] at hf
  unfold trF
  rw [List.take_of_length_le (by omega), map_trA fun a ha => by have := (okF_iff.1 (hf.2 a ha)).2.2.2.1; omega]
theorem ofS_c {w : World} {hv v : Value} {h : List Int} {l : List Atm} (hh : SlI w hv h) (hs : SlA w v l) : Calls Tryd.prog 9 #[.agg #[hv, v]] w fun e w' => ∃ hv' v', e = .returned (.agg #[hv', v']) ∧ SlI w' hv' (h.take 9) ∧ SlA w' v' (trB l) ∧ Grow w w' := by
  refine (of_c hh hs).mono ?_
  rintro e w' ⟨a, b, rfl, h1, h2, g, -⟩
  exact ⟨a, b, rfl, Own.slI h1, h2.slX, g⟩
theorem varsL_bit : ∀ {xs : List Int} {i : Nat}, (varsL xs).testBit i = true ↔ (i : Int) ∈ xs
  | [], i => by simp [varsL]
  | x :: r, i => by
    rw [varsL, Nat.testBit_or, Bool.or_eq_true, varsL_bit, List.mem_cons]
    refine or_congr_left ?_
    split
    · rename_i h
      rw [Nat.testBit_two_pow]
      simp; omega
    · simp; omega
end Go.Proofs.YtmjpnfapjcfejaaDoor
