/- Records: slices of records (each of some cells), local copies of them, append of one. No condition. -/
import Derived.Test.YtleiddajojgmmaaDoorCb
import Derived.Laws.CopyRow
import Derived.Test.YtleiddajojgmmaaDoorGa
import Derived.Test.YtleiddajojgmmaaDoorSh
import Derived.Sort.OwnSortedInts
import Derived.Test.YtleiddajojgmmaaDoorGs
namespace Go.Proofs.YtleiddajojgmmaaDoor.VC
open Go Go.RowKit
set_option linter.unusedSimpArgs false
set_option linter.unusedVariables false

theorem add_add (a : Addr) (i j : Nat) : (a.add i).add j = a.add (i + j) := by
  unfold Addr.add
  split <;> split <;> simp_all <;> omega
theorem Addr.add0 (g j : Nat) : (⟨g, 0, none⟩ : Addr).add j = ⟨g, j, none⟩ := by unfold Addr.add; split <;> simp_all
/-- A slice whose elements have the cells f x. -/
def SlR {α : Type} (f : α → List Value) (w : World) (v : Value) (xs : List α) : Prop := SlC w v xs.length (xs.flatMap f)
section
variable {α : Type} {f : α → List Value}
theorem SlR.grow {w w' : World} {v : Value} {xs : List α} (h : SlR f w v xs) (hf : Grow w w') : SlR f w' v xs := SlC.grow h hf
theorem SlR.dr {w : World} {v : Value} {xs : List α} (h : SlR f w v xs) (m : Nat) : SlR f (dr w m) v xs := SlC.dr h m
theorem SlR.nil (w : World) : SlR f w (.slice none 0 0) [] := SlC.nil w
theorem SlR.one {w : World} {v : Value} {xs : List α} (h : SlR f w v xs) : oneV v := SlC.one h
theorem SlR.len_le {w : World} {v : Value} {xs : List α} (h : SlR f w v xs) : xs.length ≤ 9223372036854775807 := SlC.len_le h
theorem SlR.ln {w : World} {v : Value} {xs : List α} (h : SlR f w v xs) {K : Nat → Prop} (hk : K xs.length) : ∃ (a : Option Addr) (m c : Nat), v = .slice a m c ∧ K m := SlC.ln h hk
theorem flat_len {xs : List α} {k : Nat} (hf : ∀ x, (f x).length = k) : (xs.flatMap f).length = xs.length * k := by
  induction xs with
  | nil => simp
  | cons x r ih => rw [List.flatMap_cons, List.length_append, ih, hf, List.length_cons, Nat.add_mul]; omega
theorem flat_get {xs : List α} {k : Nat} (hf : ∀ x, (f x).length = k) {i j : Nat} (hi : i < xs.length) (hj : j < k) : (xs.flatMap f)[i * k + j]? = (f xs[i])[j]? := by
  induction xs generalizing i with
  | nil => simp at hi
  | cons x r ih =>
    rw [List.flatMap_cons]
    cases i with
    | zero =>
      rw [List.getElem?_append_left (by rw [hf]; omega)]
      simp
    | succ i =>
      have e : (i + 1) * k + j = k + (i * k + j) := by rw [Nat.add_mul]; omega
      rw [e, List.getElem?_append_right (by rw [hf]; omega), hf, show k + (i * k + j) - k = i * k + j by omega, ih (by simpa using hi)]
      simp
/-- An element is read: all its cells. -/
theorem SlR.rd {w : World} {v : Value} {xs : List α} {k : Nat} (h : SlR f w v xs) (hf : ∀ x, (f x).length = k) {i : Nat} {j : Int} (hj : j = (i : Int)) (hi : i < xs.length) {K : List Value → Prop} (hk : K (f xs[i])) :
    ∃ (a : Addr) (m c : Nat), v = .slice (some a) m c ∧ ((0 : Int) ≤ j ∧ j < (m : Int)) ∧ ∃ cs : List Value, cs.length = k ∧ (∀ t u, cs[t]? = some u → w.cell? (Addr.add (a.add (Int.toNat j * k)) t) = some u) ∧ K cs := by
  subst hj
  obtain ⟨a, c, rfl, h1, h2, h3, h4⟩ := h.ex
  have hsome : ∃ b, a = some b := by
    cases a with
    | none =>
      have := h3 rfl; omega
    | some b => exact ⟨b, rfl⟩
  obtain ⟨b, rfl⟩ := hsome
  refine ⟨b, _, c, rfl, ⟨by omega, by omega⟩, f xs[i], hf _, fun t u ht => ?_, hk⟩
  have htk : t < k := by
    have := (List.getElem?_eq_some_iff.1 ht).1
    rwa [hf] at this
  obtain ⟨b', hb, hc⟩ := h4 (i * k + t) u (by rw [flat_get hf hi htk]; exact ht)
  cases hb
  rw [add_add, Int.toNat_natCast]
  exact hc
/-- One cell of an element. -/
theorem SlR.rdc {w : World} {v : Value} {xs : List α} {k : Nat} (h : SlR f w v xs) (hf : ∀ x, (f x).length = k) {i t : Nat} {j : Int} {u : Value} (hj : j = (i : Int)) (hi : i < xs.length) (hu : (f xs[i])[t]? = some u) {K : Addr → Prop} (hk : ∀ p, w.cell? (p.add t) = some u → K p) :
    ∃ (a : Addr) (m c : Nat), v = .slice (some a) m c ∧ ((0 : Int) ≤ j ∧ j < (m : Int)) ∧ K (a.add (Int.toNat j * k)) := by
  obtain ⟨a, m, c, e, hb, cs, hl, hcs, rfl⟩ := h.rd hf hj hi (K := fun cs => cs = f xs[i]) rfl
  exact ⟨a, m, c, e, hb, hk _ (hcs t u hu)⟩
/-- The beginning of a slice of records. -/
theorem SlR.upto {w : World} {v : Value} {xs : List α} {k : Nat} (h : SlR f w v xs) (hf : ∀ x, (f x).length = k) {i : Nat} {ik : IntKind} {z : Int} (hz : z = (i : Int)) (hi : i ≤ xs.length) {K : Value → Prop} (hk : ∀ v', SlR f w v' (xs.take i) → K v') :
    ∃ (a : Option Addr) (n c : Nat), v = .slice a n c ∧ ∃ l hh m : Nat, sbR none (some (.int ik z)) none n c l hh m ∧ K (.slice (if m = l then a else a.map (·.add (l * k))) (hh - l) (m - l)) := by
  subst hz
  obtain ⟨a, c, rfl, h1, h2, h3, h4⟩ := h.ex
  refine ⟨a, _, c, rfl, 0, i, c, ⟨rfl, rfl, rfl, by simp, by omega, by omega, by omega⟩, hk _ ?_⟩
  refine ⟨a, c, ?_, by simp; omega, h2, h3, fun j u hj => ?_⟩
  · have : (xs.take i).length = i := by simp; omega
    rw [this]
    by_cases hc : c = 0
    · simp [hc]
    · rw [if_neg hc]
      cases a <;> simp [Addr.add]
  · refine h4 j u ?_
    have e : xs.flatMap f = (xs.take i).flatMap f ++ (xs.drop i).flatMap f := by rw [← List.flatMap_append, List.take_append_drop]
    have hl := (List.getElem?_eq_some_iff.1 hj).1
    rw [e, List.getElem?_append_left hl]
    exact hj
end
/-! ## Slices of elements that are read by a relation -/
/-- A slice of elements of k cells each; the cells of an element stand in the relation rep to what it reads as. -/
structure SlX {α : Type} (k : Nat) (rep : World → List Value → α → Prop) (w : World) (v : Value) (xs : List α) : Prop where
  ex : ∃ (a : Option Addr) (c : Nat), v = .slice a xs.length c ∧ xs.length ≤ c ∧ c ≤ 9223372036854775807 ∧ (a = none → c = 0) ∧ ∀ i (hi : i < xs.length), ∃ b cs, a = some b ∧ cs.length = k ∧ (∀ t u, cs[t]? = some u → w.cell? (b.add (i * k + t)) = some u) ∧ rep w cs xs[i]
def Mono {α : Type} (rep : World → List Value → α → Prop) : Prop := ∀ w w' cs x, Grow w w' → rep w cs x → rep w' cs x
section
variable {α : Type} {k : Nat} {rep : World → List Value → α → Prop}
theorem SlX.nil (w : World) : SlX k rep w (.slice none 0 0) [] := ⟨none, 0, rfl, by simp, by omega, fun _ => rfl, fun i hi => by simp at hi⟩
theorem SlX.grow (hm : Mono rep) {w w' : World} {v : Value} {xs : List α} (h : SlX k rep w v xs) (hf : Grow w w') : SlX k rep w' v xs := by
  obtain ⟨a, c, e, h1, h2, h3, h4⟩ := h.ex
  refine ⟨a, c, e, h1, h2, h3, fun i hi => ?_⟩
  obtain ⟨b, cs, e1, e2, e3, e4⟩ := h4 i hi
  exact ⟨b, cs, e1, e2, fun t u ht => hf.cell (e3 t u ht), hm _ _ _ _ hf e4⟩
theorem SlX.one {w : World} {v : Value} {xs : List α} (h : SlX k rep w v xs) : oneV v := by
  obtain ⟨a, c, rfl, _⟩ := h.ex; exact ⟨rfl, rfl⟩
theorem SlX.len_le {w : World} {v : Value} {xs : List α} (h : SlX k rep w v xs) : xs.length ≤ 9223372036854775807 := by
  obtain ⟨a, c, rfl, h1, h2, _⟩ := h.ex; omega
theorem SlX.ln {w : World} {v : Value} {xs : List α} (h : SlX k rep w v xs) {K : Nat → Prop} (hk : K xs.length) : ∃ (a : Option Addr) (m c : Nat), v = .slice a m c ∧ K m := by
  obtain ⟨a, c, rfl, _⟩ := h.ex; exact ⟨a, xs.length, c, rfl, hk⟩
/-- An element is read: all its cells. -/
theorem SlX.rd {w : World} {v : Value} {xs : List α} (h : SlX k rep w v xs) {i : Nat} {j : Int} (hj : j = (i : Int)) (hi : i < xs.length) {K : List Value → Prop} (hk : ∀ cs, cs.length = k → rep w cs xs[i] → K cs) :
    ∃ (a : Addr) (m c : Nat), v = .slice (some a) m c ∧ ((0 : Int) ≤ j ∧ j < (m : Int)) ∧ ∃ cs : List Value, cs.length = k ∧ (∀ t u, cs[t]? = some u → w.cell? (Addr.add (a.add (Int.toNat j * k)) t) = some u) ∧ K cs := by
  subst hj
  obtain ⟨a, c, rfl, h1, h2, h3, h4⟩ := h.ex
  obtain ⟨b, cs, rfl, e2, e3, e4⟩ := h4 i hi
  refine ⟨b, _, c, rfl, ⟨by omega, by omega⟩, cs, e2, fun t u ht => ?_, hk cs e2 e4⟩
  rw [add_add, Int.toNat_natCast]
  exact e3 t u ht
/-- The place of an element. -/
theorem SlX.at {w : World} {v : Value} {xs : List α} (h : SlX k rep w v xs) {i : Nat} {j : Int} (hj : j = (i : Int)) (hi : i < xs.length) {K : Addr → Prop} (hk : ∀ p cs, cs.length = k → (∀ t u, cs[t]? = some u → w.cell? (p.add t) = some u) → rep w cs xs[i] → K p) :
    ∃ (a : Addr) (m c : Nat), v = .slice (some a) m c ∧ ((0 : Int) ≤ j ∧ j < (m : Int)) ∧ K (a.add (Int.toNat j * k)) := by
  subst hj
  obtain ⟨a, c, rfl, h1, h2, h3, h4⟩ := h.ex
  obtain ⟨b, cs, rfl, e2, e3, e4⟩ := h4 i hi
  refine ⟨b, _, c, rfl, ⟨by omega, by omega⟩, hk _ cs e2 (fun t u ht => ?_) e4⟩
  rw [add_add, Int.toNat_natCast]
  exact e3 t u ht
theorem SlX.slR {f : α → List Value} (hf : ∀ x, (f x).length = k) {w : World} {v : Value} {xs : List α} (h : SlX k (fun _ cs x => cs = f x) w v xs) : SlR f w v xs := by
  obtain ⟨a, c, rfl, h1, h2, h3, h4⟩ := h.ex
  refine ⟨a, c, rfl, h1, h2, h3, fun j u hj => ?_⟩
  have hlt := (List.getElem?_eq_some_iff.1 hj).1
  rw [flat_len hf] at hlt
  have hk : 0 < k := Nat.pos_of_ne_zero fun e => by subst e; simp at hlt
  have hi : j / k < xs.length := Nat.div_lt_of_lt_mul (by rw [Nat.mul_comm]; exact hlt)
  have ht := Nat.mod_lt j hk
  have e : j / k * k + j % k = j := by rw [Nat.mul_comm]; exact Nat.div_add_mod j k
  obtain ⟨b, cs, rfl, e2, e3, rfl⟩ := h4 (j / k) hi
  rw [← e, flat_get hf hi ht] at hj
  have := e3 (j % k) u hj
  rw [e] at this
  exact ⟨b, rfl, this⟩
end
def spF (p : Int × Int) : List Value := [.int .i64 p.1, .int .i64 p.2]
theorem spF_len (p : Int × Int) : (spF p).length = 2 := rfl
theorem spF_one (p : Int × Int) : ∀ u ∈ spF p, u.oneCell' = true := by
  intro u hu
  simp [spF] at hu
  rcases hu with rfl | rfl <;> rfl
def opF (o : Int × Int × Int) : List Value := [.int .i64 o.1, .int .i64 o.2.1, .int .i64 o.2.2]
theorem opF_len (o : Int × Int × Int) : (opF o).length = 3 := rfl
theorem opF_one (o : Int × Int × Int) : ∀ u ∈ opF o, u.oneCell' = true := by
  intro u hu
  simp [opF] at hu
  rcases hu with rfl | rfl | rfl <;> rfl
/-! ## Local records -/
theorem store_row {P : Program} {w : World} {g : Nat} {cur cs : Array Value} {t : TypeId} (hg : w.heap[g]? = some (.cells cur t (0, 0))) (hl : cs.size = cur.size) (h1 : ∀ v ∈ cs.toList, v.oneCell' = true) :
    ∃ w', (storeCells ⟨g, 0, none⟩ cs.toList).run P w = .ok () w' ∧ Fr (fun k => k = g) w w' ∧ w'.heap[g]? = some (.cells cs t (0, 0)) := by
  have hr := run_storeCells_at P g 0 t cs.toList 0 cur w hg (by simp; omega) h1
  have e : (cur.toList.take (0 + 0) ++ cs.toList ++ cur.toList.drop (0 + 0 + cs.toList.length)).toArray = cs := by
    apply Array.ext'
    have : cur.toList.drop (0 + 0 + cs.toList.length) = [] := List.drop_eq_nil_of_le (by simp; omega)
    rw [this]
    simp
  rw [e] at hr
  refine ⟨_, hr, ⟨rfl, rfl, rfl, by simp [World.setRow], fun k _ hk => setRow_other w g k cs hk⟩, setRow_heap w g cur cs t (0, 0) hg⟩
theorem row_cells {w : World} {g : Nat} {cs : Array Value} {t : TypeId} (hg : w.heap[g]? = some (.cells cs t (0, 0))) : ∀ (j : Nat) (v : Value), cs.toList[j]? = some v → w.cell? (Addr.add ⟨g, 0, none⟩ j) = some v := fun j v hj => by
  rw [Addr.add0, cell_of_row w g j cs t (0, 0) hg]
  simpa using hj
theorem grow_row {w w' : World} (h : Grow w w') {g : Nat} {o : Obj} (hg : w.heap[g]? = some o) : w'.heap[g]? = some o := (h.block g (Array.getElem?_eq_some_iff.1 hg).1).trans hg
/-- A record laid on the heap as a variable, and set. -/
theorem setR {P : Program} {w w1 : World} {zs : Array Value} {cs : List Value} {t : TypeId} (hw : w1 = w.alloc (.cells zs t)) (hl : cs.length = zs.size) (h1 : ∀ v ∈ cs, v.oneCell' = true) {K : World → Prop}
    (hk : ∀ w2, Grow w w2 → w.heap.size < w2.heap.size → (∀ j u, cs[j]? = some u → w2.cell? (Addr.add ⟨w.heap.size, 0, none⟩ j) = some u) → K w2) :
    ∃ cs' : Array Value, (Value.agg cs.toArray) = Value.agg cs' ∧ cs'.size = zs.size ∧ ∃ w2 : World, (storeCells ⟨w.heap.size, 0, none⟩ cs'.toList).run P w1 = .ok () w2 ∧ K w2 := by
  have hrow : w1.heap[w.heap.size]? = some (.cells zs t (0, 0)) := by subst hw; exact heap_alloc_new w _
  obtain ⟨w2, hr, hf, hrow2⟩ := store_row (P := P) (cs := cs.toArray) hrow (by simpa using hl) (by simpa using h1)
  refine ⟨_, rfl, by simpa using hl, w2, hr, hk w2 ((alloc_grow hw).fr hf fun i hi e => by omega) ?_ fun j u hj => row_cells hrow2 j u (by simpa using hj)⟩
  have := hf.size
  have := alloc_size hw
  omega
/-! ## append of one record -/
theorem fold_zip {off : Nat} : ∀ (l : List Value) (k : Nat) (A : Array Value), off + k + l.length ≤ A.size → ∀ j, ((l.zipIdx k).foldl (fun (cs : Array Value) (p : Value × Nat) => cs.setIfInBounds (off + p.2) p.1) A)[j]? = if off + k ≤ j ∧ j < off + k + l.length then l[j - (off + k)]? else A[j]?
  | [], k, A, h, j => by
    simp
    intro h1 h2
    omega
  | v :: l, k, A, h, j => by
    simp only [List.length_cons] at h
    rw [List.zipIdx_cons, List.foldl_cons, fold_zip l (k + 1) _ (by simp; omega) j]
    simp only [List.length_cons]
    by_cases h1 : off + (k + 1) ≤ j ∧ j < off + (k + 1) + l.length
    · rw [if_pos h1, if_pos (by omega), show j - (off + k) = (j - (off + (k + 1))) + 1 by omega, List.getElem?_cons_succ]
    · rw [if_neg h1]
      by_cases h2 : j = off + k
      · subst h2
        rw [if_pos (by omega)]
        simp [Array.getElem?_setIfInBounds]
        omega
      · rw [if_neg (by omega), Array.getElem?_setIfInBounds_ne (by omega)]
theorem fill_one {size : Nat} {A cs : Array Value} (h1 : cs.size = size) (h2 : A.size = size) : Instr.fill (fun i => some (i * size, size)) A [(0, .agg cs)] = some cs := by
  have hc : (Value.agg cs).cells = cs := rfl
  simp only [Instr.fill, hc]
  rw [if_neg (by simp; omega)]
  congr 1
  apply Array.ext_getElem?
  intro j
  have := fold_zip (off := 0 * size) cs.toList 0 A (by simp; omega) j
  rw [← Array.foldl_toList, Array.toList_zipIdx]
  refine Eq.trans ?_ (this.trans ?_)
  · rfl
  · simp only [Nat.zero_mul, Nat.zero_add, Array.length_toList, Nat.sub_zero]
    by_cases hj : j < cs.size
    · rw [if_pos (by omega)]; simp
    · rw [if_neg (by omega)]
      simp [Array.getElem?_eq_none (Nat.le_of_not_lt hj), show A.size ≤ j by omega]
/-- A slice literal of one record. -/
theorem bs1 {P : Program} {t e : TypeId} {sz bytes : Nat} {z : Value} (hT : ElT P t e sz bytes z) (hsz : 0 < sz) (hsz2 : sz ≤ 16777216) {cs : Array Value} (hcs : cs.size = sz) (w : World) {K : Value → World → Prop}
    (hk : ∀ w', w' = w.alloc (.cells cs e) → K (.slice (some ⟨w.heap.size, 0, none⟩) 1 1) w') : ∃ v : Value, ∃ w' : World, (Instr.buildSlice t 1 #[(0, .agg cs)]).run P w = .ok v w' ∧ K v w' := by
  obtain ⟨i, hi, hz, hsize, hby⟩ := hT.info
  refine ⟨_, _, ?_, hk _ rfl⟩
  have hs : (sizeOf e).run P w = .ok sz w := by simp [sizeOf, typeInfo, hi, hsize]
  have hzr : (zeroValue e).run P w = .ok z w := by simp [zeroValue, typeInfo, hi, hz]
  simp only [Instr.buildSlice, Sem.run_bind, underlying_run hT.und, Result.andThen_ok, hs, Nat.one_mul]
  rw [if_neg (by omega), if_neg (by omega)]
  have hf := fill_one (size := sz) (A := (Array.range sz).map fun j => z.cells[j % z.cells.size]!) hcs (by simp)
  simp only [Sem.run_bind, hzr, Result.andThen_ok, Sem.run_pure, hf, newRow, run_newObj]
  rfl
/-- append of one record. -/
theorem pappR {α : Type} {f : α → List Value} {P : Program} {t ty e : TypeId} {sz bytes : Nat} {z : Value} (hT : ElT P t e sz bytes z) (hsz : 0 < sz) (hf : ∀ x, (f x).length = sz) (h1 : ∀ x, ∀ u ∈ f x, u.oneCell' = true) {w w1 : World} {B : Nat} {v : Value} {x : α} {xs : List α}
    (hw : w1 = w.alloc (.cells (f x).toArray e)) (hown : Own w B e sz v xs.length (xs.flatMap f)) (hB : B ≤ w.heap.size) (hlen : (xs.length + 1) * bytes ≤ 140737488355328) (hb : 0 < bytes) {K : Value → World → Prop}
    (hk : ∀ v' w', Own w' B e sz v' (xs ++ [x]).length ((xs ++ [x]).flatMap f) → Fr (fun k => some k = v.ownBlock) w1 w' → K v' w') : PApp P t ty v (.slice (some ⟨w.heap.size, 0, none⟩) 1 1) w1 K := by
  have hl := Own.lit (B := w.heap.size) (n := 1) (sz := sz) hw (Nat.le_refl _) (by omega) (by simp [hf])
  refine papp hT hsz (hown.grow (alloc_grow hw)) hl.slC (by simp [hf]) (by simpa using h1 x) (by rw [alloc_size hw]; omega) hlen hb ?_
  intro v' w' ho hfr _
  refine hk v' w' ?_ hfr
  have e1 : (xs ++ [x]).length = xs.length + 1 := by simp
  have e2 : (xs ++ [x]).flatMap f = xs.flatMap f ++ (f x).toArray.toList := by simp
  rw [e1, e2]
  exact ho
theorem Own.slR {α : Type} {f : α → List Value} {w : World} {B : Nat} {e : TypeId} {sz : Nat} {v : Value} {xs : List α} (h : Own w B e sz v xs.length (xs.flatMap f)) : SlR f w v xs := h.slC
end Go.Proofs.YtleiddajojgmmaaDoor.VC

/- Contracts of package chordal: what is reached, three nodes that are apart. The table of bits is laid (Tab). -/
namespace Go.Proofs.YtleiddajojgmmaaDoor
open Go Go.RowKit VC
set_option linter.unusedSimpArgs false
set_option linter.unusedVariables false

/-! ## Arrays of three -/
def v3 (a b c : Nat) : Array Value := #[.int .i64 (a : Int), .int .i64 (b : Int), .int .i64 (c : Int)]
end Go.Proofs.YtleiddajojgmmaaDoor

/- Elimination orders: a hole hinders every one; the greedy one is the least. No program, no condition. -/
namespace Go.Proofs.YtleiddajojgmmaaDoor
open Go Go.RowKit VC
set_option linter.unusedSimpArgs false
set_option linter.unusedVariables false

theorem and_self_sub {N : List Nat} (hN : VN N) (i left : Nat) : nb N i &&& nSub left (2 ^ i) = nb N i &&& left := by
  apply Nat.eq_of_testBit_eq
  intro j
  rw [Nat.testBit_and, Nat.testBit_and, nSub_bit, two_bit]
  by_cases e : i = j
  · subst e; rw [hN.irr']; simp
  · simp [e]
theorem find_first {left i : Nat} {q : Nat → Bool} (h : (els left).find? q = some i) : (left.testBit i = true ∧ i < 12 ∧ q i = true) ∧ ∀ j, j < i → left.testBit j = true → q j = false := by
  unfold els at h
  rw [List.find?_filter, List.find?_range_eq_some] at h
  obtain ⟨h1, h2, h3⟩ := h
  have h1 : left.testBit i = true ∧ q i = true := by simpa using h1
  refine ⟨⟨h1.1, by simpa using h2, h1.2⟩, fun j hj hb => ?_⟩
  have := h3 j hj
  simpa [hb] using this
theorem ord_el {N : List Nat} (hN : VN N) : ∀ (f left : Nat) (r : List Nat), left < 2 ^ N.length → ordN N f left = some r → elN N left (ofN r) = true
  | 0, left, r, hl, ho => by
    unfold ordN at ho
    split at ho
    · rename_i h0
      subst h0
      simp at ho
      subst ho
      rfl
    · cases ho
  | f + 1, left, r, hl, ho => by
    unfold ordN at ho
    split at ho
    · rename_i h0
      subst h0
      simp at ho
      subst ho
      rfl
    · split at ho
      · cases ho
      · rename_i i hi
        simp only [Option.map_eq_some_iff] at ho
        obtain ⟨r', hr', rfl⟩ := ho
        obtain ⟨⟨i1, i2, i3⟩, -⟩ := find_first hi
        have := ord_el hN f _ r' (nSub_lt hl) hr'
        have hil := bit_lt hl i1
        show elN N left ((i : Int) :: ofN r') = true
        simp only [elN, Int.toNat_natCast, and_self_sub hN, i1, i3, this, Bool.and_true, Bool.and_eq_true, decide_eq_true_eq]
        exact ⟨by omega, by omega⟩
theorem ordG_el {N : List Nat} (hN : VN N) {r : List Nat} (h : ordG N = some r) : elN N (al N) (ofN r) = true := ord_el hN 12 _ r (al_lt N) h
theorem el_len {N : List Nat} (hN : VN N) {l : List Int} (h : elN N (al N) l = true) : l.length = N.length := by
  rw [← pc_al hN]; exact (el_true hN l _ (al_lt N) h).2.1
end Go.Proofs.YtleiddajojgmmaaDoor

/- Colourings: what a list must be to be one, the search in depth, that a graph with an order has one with as many colours as a clique has nodes. No program, no condition. -/
namespace Go.Proofs.YtleiddajojgmmaaDoor
open Go Go.RowKit VC
set_option linter.unusedSimpArgs false
set_option linter.unusedVariables false

/-- A colouring with colours from 0 to 11. -/
structure ColP (N : List Nat) (l : List Int) : Prop where
  len : l.length = N.length
  rng : ∀ i, i < l.length → 0 ≤ gi l i ∧ gi l i ≤ 11
  prop : ∀ i j, i < l.length → E N i j → gi l j ≠ gi l i
open Classical in
theorem ColP.take {N : List Nat} (hN : VN N) {l : List Int} : ColP N (l.take 14) ↔ ColP N l := by
  have h12 := hN.le
  by_cases hl : l.length ≤ 14
  · rw [List.take_of_length_le hl]
  · constructor
    · intro h
      have := h.len
      simp at this; omega
    · intro h
      have := h.len; omega
/-! ## The search -/
/-! ## A colouring along the order -/
end Go.Proofs.YtleiddajojgmmaaDoor

/- Contracts: slices.Sort of ints of the call's own; covers by cliques, and their reference. The table of bits is laid (Tab). -/
namespace Go.Proofs.YtleiddajojgmmaaDoor
open Go Go.RowKit VC
set_option linter.unusedSimpArgs false
set_option linter.unusedVariables false

theorem sort_c {w : World} {B : Nat} {v : Value} {xs : List Int} (h : OwnI6 w B v xs) (hlen : xs.length < 4611686018427387904) : Calls Tryd.prog 18 #[v] w fun e w' => e = .returned (.tuple #[]) ∧ OwnI6 w' B v (xs.mergeSort fun x y => decide (x ≤ y)) ∧ Fr (fun k => some k = v.ownBlock) w w' := by
  rcases h.2 with ⟨rfl, h0⟩ | ⟨g, cap, cur, rfl, hb, hgg, hnc, hcm, hcs, htake⟩
  · have hx : xs = [] := by simpa using h0
    subst hx
    refine (Tryd.slices_Sort_int_none none 0 w).mono ?_
    rintro e w' ⟨rfl, rfl⟩
    exact ⟨rfl, by simpa using h, Fr.refl _ _⟩
  · have ht : cur.toList.take xs.length = xs.map (Value.int .i64) := by
      have h := htake
      rw [Nat.mul_one] at h
      exact h
    have hH := Go.holds_of_blockI hgg ht
    refine (Tryd.slices_Sort_int g 0 cap xs w hH (Array.getElem?_eq_some_iff.1 hgg).1 hlen).mono ?_
    rintro e w' ⟨rfl, n, os, rfl⟩
    have hl : (xs.mergeSort fun x y => decide (x ≤ y)).length = xs.length := by simp
    refine ⟨rfl, ?_, Fr.of_grown (Go.grownBy_sortedI _)⟩
    have := Go.ownsRow_sortedI (base := B) (n := n) (os := os) (ss := xs) (ts := xs.mergeSort fun x y => decide (x ≤ y)) (e := 3) (cap := cap) hl hb hgg hnc hcm hcs
    unfold OwnI6
    rw [hl]
    exact this
/-! ## The reference -/
end Go.Proofs.YtleiddajojgmmaaDoor

/- Slices of the call's own whose elements are read by a relation: append, reading, what stays. No condition. -/
namespace Go.Proofs.YtleiddajojgmmaaDoor.VC
open Go Go.RowKit
set_option linter.unusedSimpArgs false
set_option linter.unusedVariables false

/-- append onto a slice of the call's own; where the result's array lies. -/
theorem pappk {P : Program} {t ty e : TypeId} {sz bytes : Nat} {z : Value} (hT : ElT P t e sz bytes z) (hsz : 0 < sz) {w : World} {B : Nat} {v x : Value} {n m : Nat} {xs news : List Value} (hown : Own w B e sz v n xs) (hx : SlC w x m news) (hm : news.length = m * sz) (h1 : ∀ u ∈ news, u.oneCell' = true)
    (hB : B ≤ w.heap.size) (hlen : (n + m) * bytes ≤ 140737488355328) (hb : 0 < bytes) {K : Value → World → Prop}
    (hk : ∀ v' w', Own w' B e sz v' (n + m) (xs ++ news) → Fr (fun k => some k = v.ownBlock) w w' → (v' = .slice none 0 0 → n + m = 0) → (∀ k, v'.ownBlock = some k → some k = v.ownBlock ∨ w.heap.size ≤ k) → K v' w') : PApp P t ty v x w K := by
  obtain ⟨i, hi, hz, hsize, hby⟩ := hT.info
  obtain ⟨a, c, rfl, hmc, hc, hnone, hcells⟩ := hx.ex
  cases a with
  | none =>
    have hc0 := hnone rfl
    subst hc0
    have hm0 : m = 0 := by omega
    subst hm0
    have hnews : news = [] := by simpa using hm
    subst hnews
    refine ⟨v, w, run_append_owned_none (P := P) w B t ty e i sz hT.und hi v n xs hown, hk _ _ (by simpa using hown) (Fr.refl _ _) ?_ (fun k hk => .inl hk.symm)⟩
    intro hv
    rcases hown.2 with ⟨_, h0⟩ | ⟨g, cap, cur, rfl, _⟩
    · simpa using h0
    · cases hv
  | some a =>
    have hnm : n + m ≤ maxLen := by
      simp only [maxLen]
      have : n + m ≤ (n + m) * bytes := Nat.le_mul_of_pos_right _ hb
      omega
    have hnews : ∀ j u, news[j]? = some u → w.cell? (a.add j) = some u := fun j u hj => by obtain ⟨b, hb', hcc⟩ := hcells j u hj; cases hb'; exact hcc
    obtain ⟨v', w', hr, ho, hg, hnil⟩ := run_append_own (P := P) w B t ty e i z sz bytes hT.und hi hz hsize hby hT.zs hsz v n xs hown a m c news hm hnews h1 hnm hlen hB
    refine ⟨v', w', hr, hk v' w' ho (Fr.of_grown hg) ?_ ?_⟩
    · intro hv
      have h2 := hnil.1 hv
      have hn0 : n = 0 := by
        rcases hown.2 with ⟨_, h0⟩ | ⟨g, cap, cur, rfl, _⟩
        · exact h0
        · cases h2.1
      omega
    · rcases hown.2 with ⟨rfl, rfl⟩ | ⟨g, cap, cur, rfl, hbg, hgg, hnc, hcm, hcs, htake⟩
      · have ho2 := run_append_own (P := P) w w.heap.size t ty e i z sz bytes hT.und hi hz hsize hby hT.zs hsz (.slice none 0 0) 0 xs ⟨hown.1, .inl ⟨rfl, rfl⟩⟩ a m c news hm hnews h1 hnm hlen (Nat.le_refl _)
        obtain ⟨v2, w2, hr2, ho2, _⟩ := ho2
        rw [hr] at hr2
        simp only [Result.ok.injEq] at hr2
        obtain ⟨rfl, rfl⟩ := hr2
        exact fun k hk => .inr (Own.lt ho2 hk).1
      · by_cases hroom : n + m ≤ cap
        · have hfit : n * i.size + news.length ≤ cur.size := by rw [hm, hsize, hcs, ← Nat.add_mul]; exact Nat.mul_le_mul_right _ hroom
          have hr2 := run_append_room (P := P) w t ty e i hT.und hi g n cap cur hgg a m c news (by rw [hsize]; exact hm) hnews h1 hroom hfit
          rw [hr] at hr2
          simp only [Result.ok.injEq] at hr2
          obtain ⟨rfl, rfl⟩ := hr2
          exact fun k hk => .inl hk.symm
        · have holds : ∀ j y, xs[j]? = some y → w.cell? ((⟨g, 0, none⟩ : Addr).add j) = some y := World.ownsRow.cells (g := g) hown rfl
          have hr2 := run_append_grow (P := P) w t ty e i z hT.und hi hz ⟨g, 0, none⟩ n cap xs (by rw [hsize]; exact hown.1) holds a m c news (by rw [hsize]; exact hm) hnews (by omega) (by simp only [maxLen] at hnm; omega) (growslice_fits (by omega) (by rw [hby]; exact hlen))
          rw [hr] at hr2
          simp only [Result.ok.injEq] at hr2
          obtain ⟨rfl, rfl⟩ := hr2
          exact fun k hk => .inr (by simp [Value.ownBlock] at hk; omega)

theorem flat_len' {α : Type} {f : α → List Value} {k : Nat} {xs : List α} (hf : ∀ x ∈ xs, (f x).length = k) : (xs.flatMap f).length = xs.length * k := by
  induction xs with
  | nil => simp
  | cons x r ih => rw [List.flatMap_cons, List.length_append, ih fun y hy => hf y (List.mem_cons_of_mem _ hy), hf x (List.mem_cons_self ..), List.length_cons, Nat.add_mul]; omega
theorem flat_get' {α : Type} {f : α → List Value} {k : Nat} {xs : List α} (hf : ∀ x ∈ xs, (f x).length = k) {i j : Nat} (hi : i < xs.length) (hj : j < k) : (xs.flatMap f)[i * k + j]? = (f xs[i])[j]? := by
  induction xs generalizing i with
  | nil => simp at hi
  | cons x r ih =>
    have hx := hf x (List.mem_cons_self ..)
    have hr : ∀ y ∈ r, (f y).length = k := fun y hy => hf y (List.mem_cons_of_mem _ hy)
    rw [List.flatMap_cons]
    cases i with
    | zero =>
      rw [List.getElem?_append_left (by rw [hx]; omega)]
      simp
    | succ i =>
      have e : (i + 1) * k + j = k + (i * k + j) := by rw [Nat.add_mul]; omega
      rw [e, List.getElem?_append_right (by rw [hx]; omega), hx, show k + (i * k + j) - k = i * k + j by omega, ih hr (by simpa using hi)]
      simp

/-- The blocks of T, and v's own, may have turned. -/
abbrev FrT (T : Nat → Prop) (v : Value) (w w' : World) : Prop := Fr (fun k => T k ∨ some k = v.ownBlock) w w'
abbrev FrO (v : Value) (w w' : World) : Prop := Fr (fun k => some k = v.ownBlock) w w'
/-- An element: its cells, and that they read as x as long as no block but those of T and v's own turns. -/
structure ElX {α : Type} (T : Nat → Prop) (k : Nat) (rep : World → List Value → α → Prop) (v : Value) (w : World) (p : List Value × α) : Prop where
  len : p.1.length = k
  one : ∀ u ∈ p.1, u.oneCell' = true
  rep : ∀ w', FrT T v w w' → rep w' p.1 p.2
/-- A slice of the call's own, whose elements of k cells are read by rep. -/
structure OwnX {α : Type} (T : Nat → Prop) (k : Nat) (rep : World → List Value → α → Prop) (w : World) (B : Nat) (e : TypeId) (v : Value) (xs : List α) : Prop where
  ex : ∃ ps : List (List Value × α), ps.map Prod.snd = xs ∧ (∀ p ∈ ps, ElX T k rep v w p) ∧ Own w B e k v xs.length (ps.flatMap Prod.fst)
section
variable {α : Type} {T : Nat → Prop} {k : Nat} {rep : World → List Value → α → Prop} {w w' : World} {B : Nat} {e : TypeId} {v : Value} {xs : List α}
theorem ElX.later {p : List Value × α} (h : ElX T k rep v w p) (hf : FrT T v w w') : ElX T k rep v w' p := ⟨h.len, h.one, fun w2 h2 => h.rep w2 (hf.trans h2)⟩
theorem ElX.grow {p : List Value × α} (h : ElX T k rep v w p) (hf : Grow w w') : ElX T k rep v w' p := h.later (Fr.of_grow hf)
theorem OwnX.nil (w : World) (B : Nat) (e : TypeId) : OwnX T k rep w B e (.slice none 0 0) [] := ⟨[], rfl, by simp, Own.nil _ _ _ _⟩
theorem OwnX.grow (h : OwnX T k rep w B e v xs) (hf : Grow w w') : OwnX T k rep w' B e v xs := by
  obtain ⟨ps, h1, h2, h3⟩ := h.ex
  exact ⟨ps, h1, fun p hp => (h2 p hp).grow hf, Own.grow h3 hf⟩
theorem OwnX.fr {S : Nat → Prop} (h : OwnX T k rep w B e v xs) (hf : Fr S w w') (hS : ∀ b, S b → T b) (ho : ∀ b, v.ownBlock = some b → ¬ S b) : OwnX T k rep w' B e v xs := by
  obtain ⟨ps, h1, h2, h3⟩ := h.ex
  exact ⟨ps, h1, fun p hp => (h2 p hp).later (hf.mono fun b _ hb => .inl (hS b hb)), Own.fr h3 hf ho⟩
theorem OwnX.weaken {T' : Nat → Prop} (h : OwnX T k rep w B e v xs) (hT : ∀ b, T' b → T b) : OwnX T' k rep w B e v xs := by
  obtain ⟨ps, h1, h2, h3⟩ := h.ex
  exact ⟨ps, h1, fun p hp => ⟨(h2 p hp).len, (h2 p hp).one, fun w2 hf => (h2 p hp).rep w2 (hf.mono fun b _ hb => hb.imp (hT b) id)⟩, h3⟩
theorem OwnX.dr (h : OwnX T k rep w B e v xs) (m : Nat) : OwnX T k rep (dr w m) B e v xs := h.grow ((Grow.refl w).dr m)
theorem OwnX.base (h : OwnX T k rep w B e v xs) {B' : Nat} (hB : B' ≤ B) : OwnX T k rep w B' e v xs := by
  obtain ⟨ps, h1, h2, h3⟩ := h.ex
  exact ⟨ps, h1, h2, Own.mono h3 hB⟩
theorem OwnX.lt (h : OwnX T k rep w B e v xs) {b : Nat} (hb : v.ownBlock = some b) : B ≤ b ∧ b < w.heap.size := by
  obtain ⟨ps, h1, h2, h3⟩ := h.ex
  exact Own.lt h3 hb
theorem OwnX.one (h : OwnX T k rep w B e v xs) : oneV v := by
  obtain ⟨ps, h1, h2, h3⟩ := h.ex
  exact Own.one h3
theorem SlX.of_cells {ps : List (List Value × α)} (hk : ∀ p ∈ ps, p.1.length = k ∧ rep w p.1 p.2) (hs : SlC w v ps.length (ps.flatMap Prod.fst)) : SlX k rep w v (ps.map Prod.snd) := by
  obtain ⟨a, c, rfl, h1, h2, h3, h4⟩ := hs.ex
  refine ⟨a, c, by simp, by simpa using h1, h2, h3, fun i hi => ?_⟩
  have hi' : i < ps.length := by simpa using hi
  have hp := hk _ (List.getElem_mem hi')
  have hb : ∃ b, a = some b := by
    cases a with
    | none => have := h3 rfl; omega
    | some b => exact ⟨b, rfl⟩
  obtain ⟨b, rfl⟩ := hb
  refine ⟨b, ps[i].1, rfl, hp.1, fun t u ht => ?_, by simpa using hp.2⟩
  have htk : t < k := by
    have := (List.getElem?_eq_some_iff.1 ht).1
    omega
  obtain ⟨b', hb, hc⟩ := h4 (i * k + t) u (by rw [flat_get' (fun p hp => (hk p hp).1) hi' htk]; exact ht)
  cases hb
  exact hc
theorem OwnX.slX (h : OwnX T k rep w B e v xs) : SlX k rep w v xs := by
  obtain ⟨ps, rfl, h2, h3⟩ := h.ex
  have := h3.slC
  rw [List.length_map] at this
  exact SlX.of_cells (fun p hp => ⟨(h2 p hp).len, (h2 p hp).rep w (Fr.refl _ _)⟩) this
theorem OwnX.ln (h : OwnX T k rep w B e v xs) {K : Nat → Prop} (hk : K xs.length) : ∃ (a : Option Addr) (m c : Nat), v = .slice a m c ∧ K m := h.slX.ln hk
/-- append of elements that a slice holds. -/
theorem pappX {P : Program} {t ty : TypeId} {bytes : Nat} {z : Value} (hT : ElT P t e k bytes z) (hsz : 0 < k) {x : Value} {qs : List (List Value × α)} (hown : OwnX T k rep w B e v xs) (hx : SlC w x qs.length (qs.flatMap Prod.fst)) (hq : ∀ q ∈ qs, ElX T k rep v w q)
    (hB : B ≤ w.heap.size) (hlen : (xs.length + qs.length) * bytes ≤ 140737488355328) (hb : 0 < bytes) {K : Value → World → Prop}
    (hk : ∀ v' w', OwnX T k rep w' B e v' (xs ++ qs.map Prod.snd) → FrO v w w' → (v' = .slice none 0 0 → xs.length + qs.length = 0) → (∀ b, v'.ownBlock = some b → some b = v.ownBlock ∨ w.heap.size ≤ b) → K v' w') : PApp P t ty v x w K := by
  obtain ⟨ps, h1, h2, h3⟩ := hown.ex
  refine pappk hT hsz h3 hx (flat_len' fun q hq' => (hq q hq').len) (fun u hu => ?_) hB hlen hb ?_
  · obtain ⟨q, hq', hu⟩ := List.mem_flatMap.1 hu
    exact (hq q hq').one u hu
  · intro v' w' ho hf hn hblk
    refine hk v' w' ⟨ps ++ qs, by rw [List.map_append, h1], fun p hp => ?_, ?_⟩ hf hn hblk
    · have hp : ElX T k rep v w p := by
        rcases List.mem_append.1 hp with hp | hp
        · exact h2 p hp
        · exact hq p hp
      refine ⟨hp.len, hp.one, fun w2 h4 => hp.rep w2 ?_⟩
      have h5 : Fr (fun j => w.heap.size ≤ j ∨ T j ∨ some j = v.ownBlock) w' w2 := h4.mono fun j _ hj => by
        rcases hj with hj | hj
        · exact .inr (.inl hj)
        · rcases hblk j hj.symm with h | h
          · exact .inr (.inr h)
          · exact .inl h
      exact Fr.mono ((hf.mono fun j _ hj => .inr (.inr hj)).trans h5) fun j hj h => by
        rcases h with h | h
        · omega
        · exact h
    · rw [List.flatMap_append, List.length_append, List.length_map]
      exact ho
/-- append of one element, out of a literal of one. -/
theorem pappX1 {P : Program} {t ty : TypeId} {bytes : Nat} {z : Value} (hT : ElT P t e k bytes z) (hsz : 0 < k) {cs : List Value} {y : α} (hown : OwnX T k rep w B e v xs) {w1 : World} (hw : w1 = w.alloc (.cells cs.toArray e)) (hy : ElX T k rep v w (cs, y))
    (hB : B ≤ w.heap.size) (hlen : (xs.length + 1) * bytes ≤ 140737488355328) (hb : 0 < bytes) {K : Value → World → Prop}
    (hk : ∀ v' w', OwnX T k rep w' B e v' (xs ++ [y]) → FrO v w1 w' → v' ≠ .slice none 0 0 → (∀ b, v'.ownBlock = some b → some b = v.ownBlock ∨ w.heap.size ≤ b) → K v' w') : PApp P t ty v (.slice (some ⟨w.heap.size, 0, none⟩) 1 1) w1 K := by
  have hl := Own.lit (B := w.heap.size) (n := 1) (sz := k) hw (Nat.le_refl _) (by omega) (by simpa using hy.len)
  have hg := alloc_grow hw
  have hs := alloc_size hw
  refine pappX (qs := [(cs, y)]) hT hsz (hown.grow hg) (by simpa using hl.slC) (fun q hq => ?_) (by omega) hlen hb ?_
  · have : q = (cs, y) := by simpa using hq
    subst this
    exact hy.grow hg
  · intro v' w' ho hf hn hblk
    refine hk v' w' (by simpa using ho) hf (fun e => ?_) fun b hb => ?_
    · have := hn e; simp at this
    · rcases hblk b hb with h | h
      · exact .inl h
      · exact .inr (by omega)
end
end Go.Proofs.YtleiddajojgmmaaDoor.VC

/- Contracts of leaves: slices of ints (search, clone, equal, compare, least, greatest), atoms and facts, and how they lie in memory. No condition. -/
namespace Go.Proofs.YtleiddajojgmmaaDoor
open Go Go.RowKit VC
set_option linter.unusedSimpArgs false
set_option linter.unusedVariables false

/-- It returns v, and nothing that was there has turned. -/
def Ret (w : World) (v : Value) : Ending → World → Prop := fun e w' => e = .returned v ∧ Grow w w'
theorem el_int : ElT Tryd.prog 22 3 1 8 (.int .i64 0) := ⟨by kernel_rfl, ⟨Tryd.t3, by kernel_rfl, by kernel_rfl, by kernel_rfl, by kernel_rfl⟩, rfl⟩
abbrev OwnI (w : World) (B : Nat) (v : Value) (xs : List Int) : Prop := Own w B 3 1 v xs.length (xs.map VC.encI)
/-- A record that was boxed. -/
theorem boxc {w w1 : World} {cs : Array Value} {t : TypeId} (hw : w1 = w.alloc (.cells cs t)) (j : Nat) (v : Value) (h : cs[j]? = some v) : w1.cell? (Addr.add ⟨w.heap.size, 0, none⟩ j) = some v := by
  rw [Addr.add0, alloc_cell hw]; exact h
/-! ## Ints -/
def Asks (w : World) (f : Value) (xs : List Int) (p : Int → Bool) : Prop :=
  ∃ g fst cap, f = .func (.func g) fst cap ∧ callOK g = true ∧ ∀ x ∈ xs, ∀ w', Grow w w' → Calls Tryd.prog g (fst ++ #[.int .i64 x] ++ cap) w' (Ret w' (.bool (p x)))
def idxOf {α : Type} (p : α → Bool) (xs : List α) : Int := match xs.findIdx? p with | some i => i | none => -1
theorem idxOf_any {α : Type} (p : α → Bool) (xs : List α) : decide (0 ≤ idxOf p xs) = xs.any p := by
  unfold idxOf
  cases h : xs.findIdx? p with
  | none =>
    have := List.findIdx?_eq_none_iff.1 h
    have : xs.any p = false := List.any_eq_false.2 fun x hx => by simp [this x hx]
    simp [this]
  | some i =>
    obtain ⟨hi, hp, _⟩ := List.findIdx?_eq_some_iff_getElem.1 h
    have : xs.any p = true := List.any_eq_true.2 ⟨xs[i], List.getElem_mem hi, hp⟩
    simp [this]
theorem idxOf_some {α : Type} {p : α → Bool} {xs : List α} {k : Nat} (hk : k < xs.length) (hp : p xs[k] = true) (hno : ∀ j (hj : j < xs.length), j < k → p xs[j] = false) : idxOf p xs = (k : Int) := by
  have : xs.findIdx? p = some k := List.findIdx?_eq_some_iff_getElem.2 ⟨hk, hp, fun j hj => by simpa using hno j (by omega) hj⟩
  rw [idxOf, this]
theorem idxOf_none {α : Type} {p : α → Bool} {xs : List α} (hno : ∀ j (hj : j < xs.length), p xs[j] = false) : idxOf p xs = -1 := by
  have : xs.findIdx? p = none := List.findIdx?_eq_none_iff.2 fun x hx => by
    obtain ⟨j, hj, rfl⟩ := List.mem_iff_getElem.1 hx
    exact hno j hj
  rw [idxOf, this]
theorem indexFunc_c {w : World} {v f : Value} {xs : List Int} {p : Int → Bool} (hs : SlI w v xs) (hf : Asks w f xs p) : Calls Tryd.prog 35 #[v, f] w (Ret w (.int .i64 (idxOf p xs))) := by
  refine f35_calls _ _ ?_
  obtain ⟨g, fst, cap, rfl, hg, hcall⟩ := hf
  have hle := hs.len_le
  refine hs.ln ⟨fun t w' => ∃ k : Nat, t = k ∧ k ≤ xs.length ∧ Grow w w' ∧ ∀ j (hj : j < xs.length), j < k → p xs[j] = false, fun t _ => xs.length - t.toNat, ⟨0, rfl, by omega, Grow.refl w, fun j _ h => by omega⟩, ?_⟩
  rintro - t w1 ⟨k, rfl, hk, hw, hno⟩
  refine condD (fun hlt => ?_) (fun hge => ?_)
  · have hkl : k < xs.length := by omega
    refine (hs.grow hw).rd rfl hkl ⟨g, fst, cap, rfl, hg, ?_⟩
    refine (hcall xs[k] (List.getElem_mem hkl) w1 hw).mono ?_
    rintro e w2 ⟨rfl, hg2⟩
    refine ⟨_, rfl, condP_i (fun hp => ?_) (fun hp => ?_)⟩
    · exact ⟨by rw [idxOf_some hkl hp hno], hw.trans hg2⟩
    · refine ⟨by unfold inR; omega, ⟨k + 1, by omega, by omega, hw.trans hg2, fun j hj hjk => ?_⟩, by dsimp only; omega⟩
      by_cases e : j = k
      · subst e; exact hp
      · exact hno j hj (by omega)
  · exact ⟨by rw [idxOf_none fun j hj => hno j hj (by omega)], hw⟩
theorem containsFunc_c {w : World} {v f : Value} {xs : List Int} {p : Int → Bool} (hs : SlI w v xs) (hf : Asks w f xs p) : Calls Tryd.prog 41 #[v, f] w (Ret w (.bool (xs.any p))) := by
  refine f41_calls _ _ ?_
  refine (indexFunc_c hs hf).mono ?_
  rintro e w' ⟨rfl, hg⟩
  refine ⟨_, rfl, ?_, hg⟩
  rw [idxOf_any]
theorem clone_c {w : World} {v : Value} {xs : List Int} (hs : SlI w v xs) (hlen : xs.length ≤ 1000000) : Calls Tryd.prog 36 #[v] w fun e w' => ∃ v', e = .returned v' ∧ OwnI w' w.heap.size v' xs ∧ Grow w w' := by
  refine f36_calls _ ?_
  obtain ⟨a, c, rfl, h1, h2, h3, h4⟩ := hs.ex
  refine ⟨a.isNone, nilEq (e := 3) (by kernel_rfl), condP_i (fun ha => ?_) (fun ha => ?_)⟩
  · have : a = none := by simpa using ha
    have hc := h3 this
    have : xs = [] := by have : xs.length = 0 := by omega
                         simpa using this
    subst this
    exact ⟨_, rfl, Own.nil _ _ _ _, Grow.refl w⟩
  · intro w1 hw1
    have hl := Own.lit (B := w.heap.size) (n := 0) (sz := 1) hw1 (Nat.le_refl _) (by omega) (by simp)
    refine papp el_int (by omega) hl (hs.grow (alloc_grow hw1)) (by simp) (by simp [VC.encI, Value.oneCell']) (by rw [alloc_size hw1]; omega) (by omega) (by omega) ?_
    intro v' w' ho hf hn
    refine ⟨v', rfl, by simpa [OwnI] using ho, (alloc_grow hw1).fr hf fun i hi e => ?_⟩
    simp [Value.ownBlock] at e
    omega
/-! ## Comparing: the world is left as it was -/
def cmpI (x y : Int) : Int := if x < y then -1 else if y < x then 1 else 0
def cmpL : List Int → List Int → Int
  | [], [] => 0
  | [], _ :: _ => -1
  | _ :: _, [] => 1
  | x :: r, y :: s => if cmpI x y = 0 then cmpL r s else cmpI x y
/-! ## Least and greatest -/
/-! ## Atoms and facts in memory -/
/-- A relation and arguments: two cells. -/
def repA (w : World) (cs : List Value) (a : Int × List Int) : Prop := ∃ v, cs = [.int .i64 a.1, v] ∧ SlI w v a.2
theorem repA_mono : Mono repA := fun w w' cs x hg ⟨v, h1, h2⟩ => ⟨v, h1, h2.grow hg⟩
abbrev SlA (w : World) (v : Value) (l : List (Int × List Int)) : Prop := SlX 2 repA w v l
theorem SlA.gr {w w' : World} {v : Value} {l : List (Int × List Int)} (h : SlA w v l) (hf : Grow w w') : SlA w' v l := h.grow repA_mono hf
/-- A slice of ints, as an element. -/
def repI (w : World) (cs : List Value) (x : List Int) : Prop := ∃ v, cs = [v] ∧ SlI w v x
theorem repI_mono : Mono repI := fun w w' cs x hg ⟨v, h1, h2⟩ => ⟨v, h1, h2.grow hg⟩
abbrev SlL (w : World) (v : Value) (l : List (List Int)) : Prop := SlX 1 repI w v l
theorem SlL.gr {w w' : World} {v : Value} {l : List (List Int)} (h : SlL w v l) (hf : Grow w w') : SlL w' v l := h.grow repI_mono hf
/-- A local copy of two cells reads as was set. -/
theorem two {w : World} {a : Addr} {x y : Value} (h0 : w.cell? (a.add 0) = some x) (h1 : w.cell? (a.add 1) = some y) : ∀ (j : Nat) (u : Value), [x, y][j]? = some u → w.cell? (a.add j) = some u
  | 0, u, h => by simp at h; subst h; exact h0
  | 1, u, h => by simp at h; subst h; exact h1
  | j + 2, u, h => by simp at h
end Go.Proofs.YtleiddajojgmmaaDoor
