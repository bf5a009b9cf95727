/- Records: slices of records (each of some cells), local copies of them, append of one. No condition. -/
import Derived.Test.YtmjpnfapjcfejaaVo
import Derived.Laws.CopyRow
namespace Go.Proofs.Ytmjpnfapjcfejaa.VC
open Go Go.RowKit
set_option linter.unusedSimpArgs false
set_option linter.unusedVariables false

theorem add_add (a : Addr) (i j : Nat) : (a.add i).add j = a.add (i + j) := by
  unfold Addr.add
  split <;> split <;> simp_all <;> omega
theorem Addr.add0 (g j : Nat) : (⟨g, 0, none⟩ : Addr).add j = ⟨g, j, none⟩ := by unfold Addr.add; split <;> simp_all
/-- A slice whose elements have the cells f x. -/
def SlR {α : Type} (f : α → List Value) (w : World) (v : Value) (xs : List α) : Prop := SlC w v xs.length (xs.flatMap f)
section
variable {α : Type} {f : α → List Value}
theorem SlR.grow {w w' : World} {v : Value} {xs : List α} (h : SlR f w v xs) (hf : Grow w w') : SlR f w' v xs := SlC.grow h hf
theorem SlR.dr {w : World} {v : Value} {xs : List α} (h : SlR f w v xs) (m : Nat) : SlR f (dr w m) v xs := SlC.dr h m
theorem SlR.nil (w : World) : SlR f w (.slice none 0 0) [] := SlC.nil w
theorem SlR.one {w : World} {v : Value} {xs : List α} (h : SlR f w v xs) : oneV v := SlC.one h
theorem SlR.len_le {w : World} {v : Value} {xs : List α} (h : SlR f w v xs) : xs.length ≤ 9223372036854775807 := SlC.len_le h
theorem SlR.ln {w : World} {v : Value} {xs : List α} (h : SlR f w v xs) {K : Nat → Prop} (hk : K xs.length) : ∃ (a : Option Addr) (m c : Nat), v = .slice a m c ∧ K m := SlC.ln h hk
theorem flat_len {xs : List α} {k : Nat} (hf : ∀ x, (f x).length = k) : (xs.flatMap f).length = xs.length * k := by
  induction xs with
  | nil => simp
  | cons x r ih => rw [List.flatMap_cons, List.length_append, ih, hf, List.length_cons, Nat.add_mul]; omega
theorem flat_get {xs : List α} {k : Nat} (hf : ∀ x, (f x).length = k) {i j : Nat} (hi : i < xs.length) (hj : j < k) : (xs.flatMap f)[i * k + j]? = (f xs[i])[j]? := by
  induction xs generalizing i with
  | nil => simp at hi
  | cons x r ih =>
    rw [List.flatMap_cons]
    cases i with
    | zero =>
      rw [List.getElem?_append_left (by rw [hf]; omega)]
      simp
    | succ i =>
      have e : (i + 1) * k + j = k + (i * k + j) := by rw [Nat.add_mul]; omega
      rw [e, List.getElem?_append_right (by rw [hf]; omega), hf, show k + (i * k + j) - k = i * k + j by omega, ih (by simpa using hi)]
      simp
/-- An element is read: all its cells. -/
theorem SlR.rd {w : World} {v : Value} {xs : List α} {k : Nat} (h : SlR f w v xs) (hf : ∀ x, (f x).length = k) {i : Nat} {j : Int} (hj : j = (i : Int)) (hi : i < xs.length) {K : List Value → Prop} (hk : K (f xs[i])) :
    ∃ (a : Addr) (m c : Nat), v = .slice (some a) m c ∧ ((0 : Int) ≤ j ∧ j < (m : Int)) ∧ ∃ cs : List Value, cs.length = k ∧ (∀ t u, cs[t]? = some u → w.cell? (Addr.add (a.add (Int.toNat j * k)) t) = some u) ∧ K cs := by
  subst hj
  obtain ⟨a, c, rfl, h1, h2, h3, h4⟩ := h.ex
  have hsome : ∃ b, a = some b := by
    cases a with
    | none =>
      have := h3 rfl; omega
    | some b => exact ⟨b, rfl⟩
  obtain ⟨b, rfl⟩ := hsome
  refine ⟨b, _, c, rfl, ⟨by omega, by omega⟩, f xs[i], hf _, fun t u ht => ?_, hk⟩
  have htk : t < k := by
    have := (List.getElem?_eq_some_iff.1 ht).1
    rwa [hf] at this
  obtain ⟨b', hb, hc⟩ := h4 (i * k + t) u (by rw [flat_get hf hi htk]; exact ht)
  cases hb
  rw [add_add, Int.toNat_natCast]
  exact hc
/-- One cell of an element. -/
theorem SlR.rdc {w : World} {v : Value} {xs : List α} {k : Nat} (h : SlR f w v xs) (hf : ∀ x, (f x).length = k) {i t : Nat} {j : Int} {u : Value} (hj : j = (i : Int)) (hi : i < xs.length) (hu : (f xs[i])[t]? = some u) {K : Addr → Prop} (hk : ∀ p, w.cell? (p.add t) = some u → K p) :
    ∃ (a : Addr) (m c : Nat), v = .slice (some a) m c ∧ ((0 : Int) ≤ j ∧ j < (m : Int)) ∧ K (a.add (Int.toNat j * k)) := by
  obtain ⟨a, m, c, e, hb, cs, hl, hcs, rfl⟩ := h.rd hf hj hi (K := fun cs => cs = f xs[i]) rfl
  exact ⟨a, m, c, e, hb, hk _ (hcs t u hu)⟩
/-- The beginning of a slice of records. -/
theorem SlR.upto {w : World} {v : Value} {xs : List α} {k : Nat} (h : SlR f w v xs) (hf : ∀ x, (f x).length = k) {i : Nat} {ik : IntKind} {z : Int} (hz : z = (i : Int)) (hi : i ≤ xs.length) {K : Value → Prop} (hk : ∀ v', SlR f w v' (xs.take i) → K v') :
    ∃ (a : Option Addr) (n c : Nat), v = .slice a n c ∧ ∃ l hh m : Nat, sbR none (some (.int ik z)) none n c l hh m ∧ K (.slice (if m = l then a else a.map (·.add (l * k))) (hh - l) (m - l)) := by
  subst hz
  obtain ⟨a, c, rfl, h1, h2, h3, h4⟩ := h.ex
  refine ⟨a, _, c, rfl, 0, i, c, ⟨rfl, rfl, rfl, by simp, by omega, by omega, by omega⟩, hk _ ?_⟩
  refine ⟨a, c, ?_, by simp; omega, h2, h3, fun j u hj => ?_⟩
  · have : (xs.take i).length = i := by simp; omega
    rw [this]
    by_cases hc : c = 0
    · simp [hc]
    · rw [if_neg hc]
      cases a <;> simp [Addr.add]
  · refine h4 j u ?_
    have e : xs.flatMap f = (xs.take i).flatMap f ++ (xs.drop i).flatMap f := by rw [← List.flatMap_append, List.take_append_drop]
    have hl := (List.getElem?_eq_some_iff.1 hj).1
    rw [e, List.getElem?_append_left hl]
    exact hj
end
/-! ## Slices of elements that are read by a relation -/
/-- A slice of elements of k cells each; the cells of an element stand in the relation rep to what it reads as. -/
structure SlX {α : Type} (k : Nat) (rep : World → List Value → α → Prop) (w : World) (v : Value) (xs : List α) : Prop where
  ex : ∃ (a : Option Addr) (c : Nat), v = .slice a xs.length c ∧ xs.length ≤ c ∧ c ≤ 9223372036854775807 ∧ (a = none → c = 0) ∧ ∀ i (hi : i < xs.length), ∃ b cs, a = some b ∧ cs.length = k ∧ (∀ t u, cs[t]? = some u → w.cell? (b.add (i * k + t)) = some u) ∧ rep w cs xs[i]
def Mono {α : Type} (rep : World → List Value → α → Prop) : Prop := ∀ w w' cs x, Grow w w' → rep w cs x → rep w' cs x
section
variable {α : Type} {k : Nat} {rep : World → List Value → α → Prop}
theorem SlX.nil (w : World) : SlX k rep w (.slice none 0 0) [] := ⟨none, 0, rfl, by simp, by omega, fun _ => rfl, fun i hi => by simp at hi⟩
theorem SlX.grow (hm : Mono rep) {w w' : World} {v : Value} {xs : List α} (h : SlX k rep w v xs) (hf : Grow w w') : SlX k rep w' v xs := by
  obtain ⟨a, c, e, h1, h2, h3, h4⟩ := h.ex
  refine ⟨a, c, e, h1, h2, h3, fun i hi => ?_⟩
  obtain ⟨b, cs, e1, e2, e3, e4⟩ := h4 i hi
  exact ⟨b, cs, e1, e2, fun t u ht => hf.cell (e3 t u ht), hm _ _ _ _ hf e4⟩
theorem SlX.one {w : World} {v : Value} {xs : List α} (h : SlX k rep w v xs) : oneV v := by
  obtain ⟨a, c, rfl, _⟩ := h.ex; exact ⟨rfl, rfl⟩
theorem SlX.len_le {w : World} {v : Value} {xs : List α} (h : SlX k rep w v xs) : xs.length ≤ 9223372036854775807 := by
  obtain ⟨a, c, rfl, h1, h2, _⟩ := h.ex; omega
theorem SlX.ln {w : World} {v : Value} {xs : List α} (h : SlX k rep w v xs) {K : Nat → Prop} (hk : K xs.length) : ∃ (a : Option Addr) (m c : Nat), v = .slice a m c ∧ K m := by
  obtain ⟨a, c, rfl, _⟩ := h.ex; exact ⟨a, xs.length, c, rfl, hk⟩
/-- An element is read: all its cells. -/
theorem SlX.rd {w : World} {v : Value} {xs : List α} (h : SlX k rep w v xs) {i : Nat} {j : Int} (hj : j = (i : Int)) (hi : i < xs.length) {K : List Value → Prop} (hk : ∀ cs, cs.length = k → rep w cs xs[i] → K cs) :
    ∃ (a : Addr) (m c : Nat), v = .slice (some a) m c ∧ ((0 : Int) ≤ j ∧ j < (m : Int)) ∧ ∃ cs : List Value, cs.length = k ∧ (∀ t u, cs[t]? = some u → w.cell? (Addr.add (a.add (Int.toNat j * k)) t) = some u) ∧ K cs := by
  subst hj
  obtain ⟨a, c, rfl, h1, h2, h3, h4⟩ := h.ex
  obtain ⟨b, cs, rfl, e2, e3, e4⟩ := h4 i hi
  refine ⟨b, _, c, rfl, ⟨by omega, by omega⟩, cs, e2, fun t u ht => ?_, hk cs e2 e4⟩
  rw [add_add, Int.toNat_natCast]
  exact e3 t u ht
/-- The place of an element. -/
theorem SlX.at {w : World} {v : Value} {xs : List α} (h : SlX k rep w v xs) {i : Nat} {j : Int} (hj : j = (i : Int)) (hi : i < xs.length) {K : Addr → Prop} (hk : ∀ p cs, cs.length = k → (∀ t u, cs[t]? = some u → w.cell? (p.add t) = some u) → rep w cs xs[i] → K p) :
    ∃ (a : Addr) (m c : Nat), v = .slice (some a) m c ∧ ((0 : Int) ≤ j ∧ j < (m : Int)) ∧ K (a.add (Int.toNat j * k)) := by
  subst hj
  obtain ⟨a, c, rfl, h1, h2, h3, h4⟩ := h.ex
  obtain ⟨b, cs, rfl, e2, e3, e4⟩ := h4 i hi
  refine ⟨b, _, c, rfl, ⟨by omega, by omega⟩, hk _ cs e2 (fun t u ht => ?_) e4⟩
  rw [add_add, Int.toNat_natCast]
  exact e3 t u ht
theorem SlX.slR {f : α → List Value} (hf : ∀ x, (f x).length = k) {w : World} {v : Value} {xs : List α} (h : SlX k (fun _ cs x => cs = f x) w v xs) : SlR f w v xs := by
  obtain ⟨a, c, rfl, h1, h2, h3, h4⟩ := h.ex
  refine ⟨a, c, rfl, h1, h2, h3, fun j u hj => ?_⟩
  have hlt := (List.getElem?_eq_some_iff.1 hj).1
  rw [flat_len hf] at hlt
  have hk : 0 < k := Nat.pos_of_ne_zero fun e => by subst e; simp at hlt
  have hi : j / k < xs.length := Nat.div_lt_of_lt_mul (by rw [Nat.mul_comm]; exact hlt)
  have ht := Nat.mod_lt j hk
  have e : j / k * k + j % k = j := by rw [Nat.mul_comm]; exact Nat.div_add_mod j k
  obtain ⟨b, cs, rfl, e2, e3, rfl⟩ := h4 (j / k) hi
  rw [← e, flat_get hf hi ht] at hj
  have := e3 (j % k) u hj
  rw [e] at this
  exact ⟨b, rfl, this⟩
end
def spF (p : Int × Int) : List Value := [.int .i64 p.1, .int .i64 p.2]
theorem spF_len (p : Int × Int) : (spF p).length = 2 := rfl
theorem spF_one (p : Int × Int) : ∀ u ∈ spF p, u.oneCell' = true := by
  intro u hu
  simp [spF] at hu
  rcases hu with rfl | rfl <;> rfl
def opF (o : Int × Int × Int) : List Value := [.int .i64 o.1, .int .i64 o.2.1, .int .i64 o.2.2]
theorem opF_len (o : Int × Int × Int) : (opF o).length = 3 := rfl
theorem opF_one (o : Int × Int × Int) : ∀ u ∈ opF o, u.oneCell' = true := by
  intro u hu
  simp [opF] at hu
  rcases hu with rfl | rfl | rfl <;> rfl
/-! ## Local records -/
theorem store_row {P : Program} {w : World} {g : Nat} {cur cs : Array Value} {t : TypeId} (hg : w.heap[g]? = some (.cells cur t (0, 0))) (hl : cs.size = cur.size) (h1 : ∀ v ∈ cs.toList, v.oneCell' = true) :
    ∃ w', (storeCells ⟨g, 0, none⟩ cs.toList).run P w = .ok () w' ∧ Fr (fun k => k = g) w w' ∧ w'.heap[g]? = some (.cells cs t (0, 0)) := by
  have hr := run_storeCells_at P g 0 t cs.toList 0 cur w hg (by simp; omega) h1
  have e : (cur.toList.take (0 + 0) ++ cs.toList ++ cur.toList.drop (0 + 0 + cs.toList.length)).toArray = cs := by
    apply Array.ext'
    have : cur.toList.drop (0 + 0 + cs.toList.length) = [] := List.drop_eq_nil_of_le (by simp; omega)
    rw [this]
    simp
  rw [e] at hr
  refine ⟨_, hr, ⟨rfl, rfl, rfl, by simp [World.setRow], fun k _ hk => setRow_other w g k cs hk⟩, setRow_heap w g cur cs t (0, 0) hg⟩
theorem row_cells {w : World} {g : Nat} {cs : Array Value} {t : TypeId} (hg : w.heap[g]? = some (.cells cs t (0, 0))) : ∀ (j : Nat) (v : Value), cs.toList[j]? = some v → w.cell? (Addr.add ⟨g, 0, none⟩ j) = some v := fun j v hj => by
  rw [Addr.add0, cell_of_row w g j cs t (0, 0) hg]
  simpa using hj
theorem grow_row {w w' : World} (h : Grow w w') {g : Nat} {o : Obj} (hg : w.heap[g]? = some o) : w'.heap[g]? = some o := (h.block g (Array.getElem?_eq_some_iff.1 hg).1).trans hg
/-- A record laid on the heap as a variable, and set. -/
theorem setR {P : Program} {w w1 : World} {zs : Array Value} {cs : List Value} {t : TypeId} (hw : w1 = w.alloc (.cells zs t)) (hl : cs.length = zs.size) (h1 : ∀ v ∈ cs, v.oneCell' = true) {K : World → Prop}
    (hk : ∀ w2, Grow w w2 → w.heap.size < w2.heap.size → (∀ j u, cs[j]? = some u → w2.cell? (Addr.add ⟨w.heap.size, 0, none⟩ j) = some u) → K w2) :
    ∃ cs' : Array Value, (Value.agg cs.toArray) = Value.agg cs' ∧ cs'.size = zs.size ∧ ∃ w2 : World, (storeCells ⟨w.heap.size, 0, none⟩ cs'.toList).run P w1 = .ok () w2 ∧ K w2 := by
  have hrow : w1.heap[w.heap.size]? = some (.cells zs t (0, 0)) := by subst hw; exact heap_alloc_new w _
  obtain ⟨w2, hr, hf, hrow2⟩ := store_row (P := P) (cs := cs.toArray) hrow (by simpa using hl) (by simpa using h1)
  refine ⟨_, rfl, by simpa using hl, w2, hr, hk w2 ((alloc_grow hw).fr hf fun i hi e => by omega) ?_ fun j u hj => row_cells hrow2 j u (by simpa using hj)⟩
  have := hf.size
  have := alloc_size hw
  omega
/-! ## append of one record -/
theorem fold_zip {off : Nat} : ∀ (l : List Value) (k : Nat) (A : Array Value), off + k + l.length ≤ A.size → ∀ j, ((l.zipIdx k).foldl (fun (cs : Array Value) (p : Value × Nat) => cs.setIfInBounds (off + p.2) p.1) A)[j]? = if off + k ≤ j ∧ j < off + k + l.length then l[j - (off + k)]? else A[j]?
  | [], k, A, h, j => by
    simp
    intro h1 h2
    omega
  | v :: l, k, A, h, j => by
    simp only [List.length_cons] at h
    rw [List.zipIdx_cons, List.foldl_cons, fold_zip l (k + 1) _ (by simp; omega) j]
    simp only [List.length_cons]
    by_cases h1 : off + (k + 1) ≤ j ∧ j < off + (k + 1) + l.length
    · rw [if_pos h1, if_pos (by omega), show j - (off + k) = (j - (off + (k + 1))) + 1 by omega, List.getElem?_cons_succ]
    · rw [if_neg h1]
      by_cases h2 : j = off + k
      · subst h2
        rw [if_pos (by omega)]
        simp [Array.getElem?_setIfInBounds]
        omega
      · rw [if_neg (by omega), Array.getElem?_setIfInBounds_ne (by omega)]
theorem fill_one {size : Nat} {A cs : Array Value} (h1 : cs.size = size) (h2 : A.size = size) : Instr.fill (fun i => some (i * size, size)) A [(0, .agg cs)] = some cs := by
  have hc : (Value.agg cs).cells = cs := rfl
  simp only [Instr.fill, hc]
  rw [if_neg (by simp; omega)]
  congr 1
  apply Array.ext_getElem?
  intro j
  have := fold_zip (off := 0 * size) cs.toList 0 A (by simp; omega) j
  rw [← Array.foldl_toList, Array.toList_zipIdx]
  refine Eq.trans ?_ (this.trans ?_)
  · rfl
  · simp only [Nat.zero_mul, Nat.zero_add, Array.length_toList, Nat.sub_zero]
    by_cases hj : j < cs.size
    · rw [if_pos (by omega)]; simp
    · rw [if_neg (by omega)]
      simp [Array.getElem?_eq_none (Nat.le_of_not_lt hj), show A.size ≤ j by omega]
/-- A slice literal of one record. -/
theorem bs1 {P : Program} {t e : TypeId} {sz bytes : Nat} {z : Value} (hT : ElT P t e sz bytes z) (hsz : 0 < sz) (hsz2 : sz ≤ 16777216) {cs : Array Value} (hcs : cs.size = sz) (w : World) {K : Value → World → Prop}
    (hk : ∀ w', w' = w.alloc (.cells cs e) → K (.slice (some ⟨w.heap.size, 0, none⟩) 1 1) w') : ∃ v : Value, ∃ w' : World, (Instr.buildSlice t 1 #[(0, .agg cs)]).run P w = .ok v w' ∧ K v w' := by
  obtain ⟨i, hi, hz, hsize, hby⟩ := hT.info
  refine ⟨_, _, ?_, hk _ rfl⟩
  have hs : (sizeOf e).run P w = .ok sz w := by simp [sizeOf, typeInfo, hi, hsize]
  have hzr : (zeroValue e).run P w = .ok z w := by simp [zeroValue, typeInfo, hi, hz]
  simp only [Instr.buildSlice, Sem.run_bind, underlying_run hT.und, Result.andThen_ok, hs, Nat.one_mul]
  rw [if_neg (by omega), if_neg (by omega)]
  have hf := fill_one (size := sz) (A := (Array.range sz).map fun j => z.cells[j % z.cells.size]!) hcs (by simp)
  simp only [Sem.run_bind, hzr, Result.andThen_ok, Sem.run_pure, hf, newRow, run_newObj]
  rfl
/-- append of one record. -/
theorem pappR {α : Type} {f : α → List Value} {P : Program} {t ty e : TypeId} {sz bytes : Nat} {z : Value} (hT : ElT P t e sz bytes z) (hsz : 0 < sz) (hf : ∀ x, (f x).length = sz) (h1 : ∀ x, ∀ u ∈ f x, u.oneCell' = true) {w w1 : World} {B : Nat} {v : Value} {x : α} {xs : List α}
    (hw : w1 = w.alloc (.cells (f x).toArray e)) (hown : Own w B e sz v xs.length (xs.flatMap f)) (hB : B ≤ w.heap.size) (hlen : (xs.length + 1) * bytes ≤ 140737488355328) (hb : 0 < bytes) {K : Value → World → Prop}
    (hk : ∀ v' w', Own w' B e sz v' (xs ++ [x]).length ((xs ++ [x]).flatMap f) → Fr (fun k => some k = v.ownBlock) w1 w' → K v' w') : PApp P t ty v (.slice (some ⟨w.heap.size, 0, none⟩) 1 1) w1 K := by
  have hl := Own.lit (B := w.heap.size) (n := 1) (sz := sz) hw (Nat.le_refl _) (by omega) (by simp [hf])
  refine papp hT hsz (hown.grow (alloc_grow hw)) hl.slC (by simp [hf]) (by simpa using h1 x) (by rw [alloc_size hw]; omega) hlen hb ?_
  intro v' w' ho hfr _
  refine hk v' w' ?_ hfr
  have e1 : (xs ++ [x]).length = xs.length + 1 := by simp
  have e2 : (xs ++ [x]).flatMap f = xs.flatMap f ++ (f x).toArray.toList := by simp
  rw [e1, e2]
  exact ho
theorem Own.slR {α : Type} {f : α → List Value} {w : World} {B : Nat} {e : TypeId} {sz : Nat} {v : Value} {xs : List α} (h : Own w B e sz v xs.length (xs.flatMap f)) : SlR f w v xs := h.slC
end Go.Proofs.Ytmjpnfapjcfejaa.VC
