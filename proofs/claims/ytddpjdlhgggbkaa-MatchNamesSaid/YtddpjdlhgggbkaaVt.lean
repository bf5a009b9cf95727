/- Own slices written by records, cut, cleared; the cells of a slice read by a relation; an empty literal of records. No condition. -/
import Derived.Test.YtddpjdlhgggbkaaVs
namespace Go.Proofs.Ytddpjdlhgggbkaa.VC
open Go Go.RowKit
set_option linter.unusedSimpArgs false
set_option linter.unusedVariables false

/-- Cells are stored into an own slice. -/
theorem Own.put {P : Program} {w : World} {B : Nat} {e : TypeId} {sz g n cap o : Nat} {cs vs : List Value} (h : Own w B e sz (.slice (some ⟨g, 0, none⟩) n cap) n cs) (ho : o + vs.length ≤ n * sz) (h1 : ∀ u ∈ vs, u.oneCell' = true) :
    ∃ w', (storeCells ⟨g, o, none⟩ vs).run P w = .ok () w' ∧ Fr (fun k => k = g) w w' ∧ Own w' B e sz (.slice (some ⟨g, 0, none⟩) n cap) n (cs.take o ++ vs ++ cs.drop (o + vs.length)) := by
  rcases h.2 with ⟨h2, _⟩ | ⟨g', cap', cur, he, hb, hgg, hnc, hcm, hcs, htake⟩
  · cases h2
  · simp only [Value.slice.injEq, Option.some.injEq, Addr.mk.injEq, and_true, true_and] at he
    obtain ⟨rfl, rfl⟩ := he
    have hle : n * sz ≤ cur.size := by rw [hcs]; exact Nat.mul_le_mul_right _ hnc
    have hr := run_storeCells_at P g o e vs 0 cur w hgg (by omega) h1
    simp only [Nat.add_zero] at hr
    have hcl : cs.length = n * sz := h.1
    have hl : (cur.toList.take o ++ vs ++ cur.toList.drop (o + vs.length)).length = cur.size := by simp; omega
    refine ⟨_, hr, ⟨rfl, rfl, rfl, by simp [World.setRow], fun k _ hk => setRow_other w g k _ hk⟩, by simp; omega, .inr ⟨g, cap, _, rfl, hb, setRow_heap w g cur _ e _ hgg, hnc, hcm, by simpa using hl.trans hcs, ?_⟩⟩
    rw [← htake]
    apply List.ext_getElem?
    intro i
    simp only [List.toList_toArray, List.getElem?_take, List.getElem?_append, List.length_append, List.length_take, List.getElem?_drop, Array.length_toList]
    by_cases h3 : i < n * sz
    · rw [if_pos h3]
      have e1 : min o (min (n * sz) cur.size) = o := by omega
      have e2 : min o cur.size = o := by omega
      rw [e1, e2]
      by_cases h4 : i < o + vs.length
      · rw [if_pos h4, if_pos h4]
        by_cases h5 : i < o
        · rw [if_pos h5, if_pos h5, if_pos h5, if_pos h5, if_pos h3]
        · rw [if_neg h5, if_neg h5]
      · rw [if_neg h4, if_neg h4, if_pos (by omega)]
    · rw [if_neg h3]
      have e1 : min o (min (n * sz) cur.size) = o := by omega
      rw [e1, if_neg (by omega), if_neg (by omega)]
theorem Own.cut {w : World} {B : Nat} {e : TypeId} {sz g n cap k : Nat} {cs : List Value} (h : Own w B e sz (.slice (some ⟨g, 0, none⟩) n cap) n cs) (hk : k ≤ n) : Own w B e sz (.slice (some ⟨g, 0, none⟩) k cap) k (cs.take (k * sz)) := by
  rcases h.2 with ⟨h2, _⟩ | ⟨g', cap', cur, he, hb, hgg, hnc, hcm, hcs, htake⟩
  · cases h2
  · simp only [Value.slice.injEq, Option.some.injEq, Addr.mk.injEq, and_true, true_and] at he
    obtain ⟨rfl, rfl⟩ := he
    have hkn : k * sz ≤ n * sz := Nat.mul_le_mul_right _ hk
    have hcl : cs.length = n * sz := h.1
    refine ⟨by simp; omega, .inr ⟨g, cap, cur, rfl, hb, hgg, by omega, hcm, hcs, ?_⟩⟩
    rw [← htake, List.take_take, Nat.min_eq_left hkn]
/-- The cells of a slice that is read by a relation. -/
theorem SlX.cells {α : Type} {k : Nat} (hk0 : 0 < k) {rep : World → List Value → α → Prop} {w : World} {v : Value} {xs : List α} (h : SlX k rep w v xs) : ∃ ps : List (List Value × α), ps.map Prod.snd = xs ∧ (∀ p ∈ ps, p.1.length = k ∧ rep w p.1 p.2) ∧ SlC w v ps.length (ps.flatMap Prod.fst) := by
  obtain ⟨a, c, rfl, h1, h2, h3, h4⟩ := h.ex
  have hf : ∀ i : Fin xs.length, ∃ cs : List Value, cs.length = k ∧ (∀ t u, cs[t]? = some u → ∃ b, a = some b ∧ w.cell? (b.add (i.1 * k + t)) = some u) ∧ rep w cs xs[i.1] := fun i => by
    obtain ⟨b, cs, e1, e2, e3, e4⟩ := h4 i.1 i.2
    exact ⟨cs, e2, fun t u ht => ⟨b, e1, e3 t u ht⟩, e4⟩
  obtain ⟨f, hf⟩ := Classical.axiomOfChoice hf
  refine ⟨List.ofFn fun i => (f i, xs[i.1]), ?_, fun p hp => ?_, ?_⟩
  · rw [List.map_ofFn]
    exact List.ofFn_getElem
  · obtain ⟨i, rfl⟩ := List.mem_ofFn.1 hp
    exact ⟨(hf i).1, (hf i).2.2⟩
  · have hlen : (List.ofFn fun i : Fin xs.length => (f i, xs[i.1])).length = xs.length := List.length_ofFn
    have hall : ∀ p ∈ (List.ofFn fun i : Fin xs.length => (f i, xs[i.1])), (Prod.fst p).length = k := fun p hp => by
      obtain ⟨i, rfl⟩ := List.mem_ofFn.1 hp
      exact (hf i).1
    refine ⟨a, c, by rw [hlen], by rw [hlen]; exact h1, h2, h3, fun j u hj => ?_⟩
    have hlt := (List.getElem?_eq_some_iff.1 hj).1
    rw [flat_len' hall, hlen] at hlt
    have hi : j / k < xs.length := Nat.div_lt_of_lt_mul (by rw [Nat.mul_comm]; exact hlt)
    have ht := Nat.mod_lt j hk0
    have e : j / k * k + j % k = j := by rw [Nat.mul_comm]; exact Nat.div_add_mod j k
    rw [← e, flat_get' hall (by rw [hlen]; exact hi) ht] at hj
    simp only [List.getElem_ofFn] at hj
    obtain ⟨b, hb, hc⟩ := (hf ⟨j / k, hi⟩).2.1 _ u hj
    rw [e] at hc
    exact ⟨b, hb, hc⟩
theorem bs0 {P : Program} {t e : TypeId} {sz bytes : Nat} {z : Value} (hT : ElT P t e sz bytes z) (w : World) {K : Value → World → Prop}
    (hk : ∀ w', w' = w.alloc (.cells #[] e) → K (.slice (some ⟨w.heap.size, 0, none⟩) 0 0) w') : ∃ v : Value, ∃ w' : World, (Instr.buildSlice t 0 #[]).run P w = .ok v w' ∧ K v w' := by
  obtain ⟨i, hi, hz, hsize, hby⟩ := hT.info
  refine ⟨_, _, ?_, hk _ rfl⟩
  have hs : (sizeOf e).run P w = .ok sz w := by simp [sizeOf, typeInfo, hi, hsize]
  have hzr : (zeroValue e).run P w = .ok z w := by simp [zeroValue, typeInfo, hi, hz]
  simp only [Instr.buildSlice, Sem.run_bind, underlying_run hT.und, Result.andThen_ok, hs, Nat.zero_mul]
  have hr : ∀ f : Nat → Value, Array.map f (Array.range 0) = #[] := fun f => Array.eq_empty_of_size_eq_zero (by simp)
  simp [hzr, Instr.fill, newRow, run_newObj, hr]
theorem flat_take {α : Type} {f : α → List Value} {k : Nat} : ∀ {xs : List α} {i : Nat}, (∀ x ∈ xs, (f x).length = k) → (xs.take i).flatMap f = (xs.flatMap f).take (i * k)
  | [], i, _ => by simp
  | x :: r, 0, _ => by simp
  | x :: r, i + 1, h => by
    have hx := h x (List.mem_cons_self ..)
    have e : (i + 1) * k = k + i * k := by rw [Nat.add_mul]; omega
    rw [List.take_succ_cons, List.flatMap_cons, List.flatMap_cons, flat_take fun y hy => h y (List.mem_cons_of_mem _ hy), List.take_append, List.take_of_length_le (show (f x).length ≤ (i + 1) * k by rw [hx, e]; omega), hx, e, show k + i * k - k = i * k by omega]
theorem flat_drop {α : Type} {f : α → List Value} {k : Nat} : ∀ {xs : List α} {i : Nat}, (∀ x ∈ xs, (f x).length = k) → (xs.drop i).flatMap f = (xs.flatMap f).drop (i * k)
  | [], i, _ => by simp
  | x :: r, 0, _ => by simp
  | x :: r, i + 1, h => by
    have hx := h x (List.mem_cons_self ..)
    have e : (i + 1) * k = k + i * k := by rw [Nat.add_mul]; omega
    rw [List.drop_succ_cons, List.flatMap_cons, flat_drop fun y hy => h y (List.mem_cons_of_mem _ hy), List.drop_append, List.drop_of_length_le (show (f x).length ≤ (i + 1) * k by rw [hx, e]; omega), hx, e, show k + i * k - k = i * k by omega, List.nil_append]
theorem flat_set {α : Type} {f : α → List Value} {k : Nat} {xs : List α} {i : Nat} {y : α} (h : ∀ x ∈ xs, (f x).length = k) (hi : i < xs.length) (hy : (f y).length = k) : (xs.set i y).flatMap f = (xs.flatMap f).take (i * k) ++ f y ++ (xs.flatMap f).drop (i * k + (f y).length) := by
  rw [List.set_eq_take_append_cons_drop, if_pos hi, List.flatMap_append, List.flatMap_cons, flat_take h, flat_drop h, hy, List.append_assoc]
  congr 3
  rw [Nat.add_mul]; omega
/-! ## clear, and neighbours that are equal -/
theorem clear_run {P : Program} {t e : TypeId} {sz bytes : Nat} {z : Value} (hT : ElT P t e sz bytes z) {w w' : World} {a : Addr} {n c : Nat} {ty : TypeId} (hn : n ≠ 0) (h : (storeCells a (Builtin.zeroCells z.cells n).toList).run P w = .ok () w') :
    (Builtin.clear_ #[t] ty #[.slice (some a) n c]).run P w = .ok (.tuple #[]) w' := by
  obtain ⟨i, hi, hz, hsize, hby⟩ := hT.info
  have hzr : (zeroValue e).run P w = .ok z w := by simp [zeroValue, typeInfo, hi, hz]
  cases n with
  | zero => exact absurd rfl hn
  | succ n => simp [Builtin.clear_, underlying_run hT.und, hzr, h]
theorem zeroCells_mem {z : Array Value} {n : Nat} (hz : 0 < z.size) (h1 : ∀ u ∈ z.toList, u.oneCell' = true) : ∀ u ∈ (Builtin.zeroCells z n).toList, u.oneCell' = true := by
  intro u hu
  simp only [Builtin.zeroCells, Array.toList_map, Array.toList_range, List.mem_map, List.mem_range] at hu
  obtain ⟨j, hj, rfl⟩ := hu
  have hlt := Nat.mod_lt j hz
  have : z[j % z.size]! = z[j % z.size] := by simp [hlt]
  rw [this]
  exact h1 _ (by simp)
section
variable {α : Type} [DecidableEq α]
def ddp (y : α) : List α → List α
  | [] => []
  | x :: r => if x = y then ddp x r else x :: ddp x r
/-- Of neighbours that are equal the first. -/
def dd : List α → List α
  | [] => []
  | a :: r => a :: ddp a r
theorem ddp_app : ∀ (r : List α) (y x : α), ddp y (r ++ [x]) = ddp y r ++ (if x = (y :: r).getLast (by simp) then [] else [x])
  | [], y, x => by simp only [List.nil_append]; rfl
  | z :: r, y, x => by
    rw [List.cons_append, ddp, ddp, ddp_app r z x]
    have : (y :: z :: r).getLast (by simp) = (z :: r).getLast (by simp) := by simp [List.getLast_cons]
    rw [this]
    split <;> simp
theorem dd_app {l : List α} (hl : l ≠ []) (x : α) : dd (l ++ [x]) = dd l ++ (if x = l.getLast hl then [] else [x]) := by
  cases l with
  | nil => exact absurd rfl hl
  | cons a r => rw [List.cons_append, dd, dd, ddp_app]; rfl
theorem dd_take {l : List α} {i : Nat} (h0 : 1 ≤ i) (hi : i < l.length) : dd (l.take (i + 1)) = dd (l.take i) ++ (if l[i] = l[i - 1] then [] else [l[i]]) := by
  have hne : l.take i ≠ [] := by
    intro e
    have := congrArg List.length e
    rw [List.length_take, List.length_nil] at this
    omega
  rw [List.take_succ_eq_append_getElem hi, dd_app hne]
  have : (l.take i).getLast hne = l[i - 1] := by
    rw [List.getLast_eq_getElem, List.getElem_take]
    congr 1
    simp only [List.length_take]; omega
  rw [this]
theorem dd_one (a : α) : dd [a] = [a] := rfl
end
end Go.Proofs.Ytddpjdlhgggbkaa.VC
