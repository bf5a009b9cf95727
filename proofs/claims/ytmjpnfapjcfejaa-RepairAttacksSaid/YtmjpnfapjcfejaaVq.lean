/- Maps whose keys are ints: what they hold, as a list of pairs in the order of their making. No condition. -/
import Derived.Test.YtmjpnfapjcfejaaVo
import Derived.MapKept
import Derived.Carry
namespace Go.Proofs.Ytmjpnfapjcfejaa.VC
open Go Go.RowKit
set_option linter.unusedSimpArgs false
set_option linter.unusedVariables false

def idxK : List (Int × Value) → Int → Nat → Option (Nat × Value)
  | [], _, _ => none
  | (a, v) :: r, k, i => if k = a then some (i, v) else idxK r k (i + 1)
def getM (kv : List (Int × Value)) (k : Int) : Option Value := (idxK kv k 0).map (·.2)
def updM : List (Int × Value) → Int → Value → List (Int × Value)
  | [], k, v => [(k, v)]
  | (a, u) :: r, k, v => if k = a then (a, v) :: r else (a, u) :: updM r k v
theorem idxK_shift : ∀ (kv : List (Int × Value)) (k : Int) (i j : Nat), idxK kv k (i + j) = (idxK kv k i).map fun p => (p.1 + j, p.2)
  | [], _, _, _ => rfl
  | (a, v) :: r, k, i, j => by
    unfold idxK
    split
    · rfl
    · rw [show i + j + 1 = i + 1 + j by omega]; exact idxK_shift r k (i + 1) j
theorem getM_cons (a : Int) (v : Value) (r : List (Int × Value)) (k : Int) : getM ((a, v) :: r) k = if k = a then some v else getM r k := by
  unfold getM
  conv => lhs; unfold idxK
  split
  · rfl
  · rw [idxK_shift r k 0 1]; cases idxK r k 0 <;> rfl
theorem getM_upd : ∀ (kv : List (Int × Value)) (k j : Int) (v : Value), getM (updM kv k v) j = if j = k then some v else getM kv j
  | [], k, j, v => by unfold updM; rw [getM_cons]
  | (a, u) :: r, k, j, v => by
    unfold updM
    by_cases h : k = a
    · subst h
      rw [if_pos rfl, getM_cons, getM_cons]
      by_cases h2 : j = k <;> simp [h2]
    · rw [if_neg h, getM_cons, getM_cons, getM_upd r k j v]
      by_cases h2 : j = a
      · have : ¬ j = k := fun e => h (e.symm.trans h2)
        simp [h2, this]
        intro e; exact absurd e.symm h
      · simp [h2]
theorem getM_none : ∀ (kv : List (Int × Value)) (k : Int), getM kv k = none → updM kv k = fun v => kv ++ [(k, v)]
  | [], k, _ => rfl
  | (a, u) :: r, k, h => by
    rw [getM_cons] at h
    split at h
    · cases h
    · rename_i hne
      funext v
      unfold updM
      rw [if_neg hne, getM_none r k h]
      rfl
theorem idxK_none {kv : List (Int × Value)} {k : Int} (h : getM kv k = none) : idxK kv k 0 = none := by
  unfold getM at h
  simpa using h
/-- What a map holds. -/
structure MapI (w : World) (b : Nat) (kv : List (Int × Value)) : Prop where
  ex : ∃ es clock, w.heap[b]? = some (.map es clock) ∧ es.toList.map (fun e => (e.key, e.val)) = kv.map fun p => (Value.int .i64 p.1, p.2)
theorem MapI.lt {w : World} {b : Nat} {kv : List (Int × Value)} (h : MapI w b kv) : b < w.heap.size := by
  obtain ⟨es, c, h1, _⟩ := h.ex
  exact (Array.getElem?_eq_some_iff.1 h1).1
theorem MapI.fr {S : Nat → Prop} {w w' : World} {b : Nat} {kv : List (Int × Value)} (h : MapI w b kv) (hf : Fr S w w') (hs : ¬ S b) : MapI w' b kv := by
  have hlt := h.lt
  obtain ⟨es, c, h1, h2⟩ := h.ex
  exact ⟨es, c, (hf.block b hlt hs).trans h1, h2⟩
theorem MapI.grow {w w' : World} {b : Nat} {kv : List (Int × Value)} (h : MapI w b kv) (hf : Grow w w') : MapI w' b kv := h.fr (Fr.of_grow (S := fun _ => False) hf) id
theorem MapI.make {P : Program} (t : TypeId) (w : World) {K : Value → World → Prop} (hk : ∀ w', w' = w.alloc (.map #[] 0) → MapI w' w.heap.size [] → Grow w w' → w'.heap.size = w.heap.size + 1 → K (.map (some w.heap.size)) w') :
    ∃ v : Value, ∃ w' : World, (Instr.makeMap t none).run P w = .ok v w' ∧ K v w' := by
  refine ⟨_, _, run_makeMap t w, hk _ rfl ⟨#[], 0, heap_alloc_new w _, rfl⟩ ((Grow.refl w).alloc _) (by simp)⟩
theorem findNow_kv {k : Int} : ∀ (l : List MapEntry) (kv : List (Int × Value)) (i : Nat), l.map (fun e => (e.key, e.val)) = kv.map (fun p => (Value.int .i64 p.1, p.2)) → Instr.findNow (.int .i64) (.int .i64 k) l i = some (idxK kv k i)
  | [], kv, i, h => by
    have : kv = [] := by simpa using h.symm
    subst this; rfl
  | e :: l, [], i, h => by simp at h
  | e :: l, (a, v) :: r, i, h => by
    simp only [List.map_cons, List.cons.injEq, Prod.mk.injEq] at h
    obtain ⟨⟨h1, h2⟩, h3⟩ := h
    unfold Instr.findNow idxK
    rw [h1]
    simp only [Instr.sameNow, if_true]
    by_cases e1 : k = a
    · subst e1; simp [h2]
    · have : (k == a) = false := by simpa using e1
      simp only [this, if_neg e1]
      exact findNow_kv l r (i + 1) h3
theorem MapI.len {P : Program} {t kt et ty : TypeId} (ht : P.underlying t = some (.map kt et)) {w : World} {b : Nat} {kv : List (Int × Value)} (h : MapI w b kv) : (Builtin.len_ #[t] ty #[.map (some b)]).run P w = .ok (.int .i64 (kv.length : Int)) w := by
  obtain ⟨es, c, h1, h2⟩ := h.ex
  have : es.size = kv.length := by have := congrArg List.length h2; simpa using this
  simp [Builtin.len_, underlying_run ht, MapKept.run_getObj_map h1, goInt, this]
theorem MapI.get {P : Program} {t kt et : TypeId} {i : TypeInfo} {z : Value} (ht : P.underlying t = some (.map kt et)) (hk : P.underlying kt = some (.int .i64)) (hi : P.info? et = some i) (hz : i.zero = some z) {w : World} {b : Nat} {kv : List (Int × Value)} (h : MapI w b kv) (k : Int) (ok : Bool) :
    (Instr.lookup t (.map (some b)) (.int .i64 k) ok).run P w = .ok (if ok then .tuple #[(getM kv k).getD z, .bool (getM kv k).isSome] else (getM kv k).getD z) w := by
  obtain ⟨es, c, h1, h2⟩ := h.ex
  have hf : Instr.findNow (.int .i64) (.int .i64 k) es.toList 0 = some (idxK kv k 0) := findNow_kv _ _ _ h2
  have hc : ∀ e, (Instr.checkKey e 10000 kt (.int .i64 k)).run P w = .ok () w := fun e => MapKept.run_checkKey (k := .int .i64 k) hk (by simp [MapKept.IsKey]) e 9999
  have hzr : (zeroValue et).run P w = .ok z w := by simp [zeroValue, typeInfo, hi, hz]
  simp only [Instr.lookup, Sem.run_bind, underlying_run ht, Result.andThen_ok, MapKept.run_getObj_map h1, Sem.run_pure, hc, MapKept.run_findKey hk hf]
  unfold getM
  cases hx : idxK kv k 0 with
  | none => simp [hzr]
  | some p => simp
theorem updM_push {es : Array MapEntry} {kv : List (Int × Value)} {k : Int} {v : Value} {c : Nat} (h : es.toList.map (fun e => (e.key, e.val)) = kv.map fun p => (Value.int .i64 p.1, p.2)) (hn : idxK kv k 0 = none) :
    (es.push { key := .int .i64 k, val := v, born := c }).toList.map (fun e => (e.key, e.val)) = (updM kv k v).map fun p => (Value.int .i64 p.1, p.2) := by
  have : getM kv k = none := by unfold getM; rw [hn]; rfl
  rw [getM_none kv k this]
  simp [h]
theorem updM_modify {k : Int} {v u : Value} : ∀ (l : List MapEntry) (kv : List (Int × Value)) (j : Nat), l.map (fun e => (e.key, e.val)) = kv.map (fun p => (Value.int .i64 p.1, p.2)) → idxK kv k 0 = some (j, u) →
    (l.modify j fun e => { e with key := .int .i64 k, val := v }).map (fun e => (e.key, e.val)) = (updM kv k v).map fun p => (Value.int .i64 p.1, p.2)
  | [], kv, j, h, hi => by
    have : kv = [] := by simpa using h.symm
    subst this; cases hi
  | e :: l, [], j, h, hi => by cases hi
  | e :: l, (a, u') :: r, j, h, hi => by
    have h0 := h
    simp only [List.map_cons, List.cons.injEq, Prod.mk.injEq] at h
    obtain ⟨⟨h1, h2⟩, h3⟩ := h
    unfold idxK at hi
    unfold updM
    split at hi
    · rename_i e1
      simp only [Option.some.injEq, Prod.mk.injEq] at hi
      obtain ⟨rfl, rfl⟩ := hi
      subst e1
      rw [if_pos rfl]
      simp [h3]
    · rename_i e1
      rw [if_neg e1]
      rw [idxK_shift r k 0 1] at hi
      cases hx : idxK r k 0 with
      | none => rw [hx] at hi; cases hi
      | some p =>
        rw [hx] at hi
        simp only [Option.map_some, Option.some.injEq, Prod.mk.injEq] at hi
        obtain ⟨rfl, rfl⟩ := hi
        have := updM_modify (v := v) l r p.1 h3 (by rw [hx])
        simp only [List.modify_succ_cons, List.map_cons]
        rw [this, h1, h2]
theorem idxK_at : ∀ (kv : List (Int × Value)) (k : Int) (j : Nat) (u : Value), idxK kv k 0 = some (j, u) → kv[j]? = some (k, u)
  | [], _, _, _, h => by cases h
  | (a, v) :: r, k, j, u, h => by
    unfold idxK at h
    split at h
    · rename_i e
      simp only [Option.some.injEq, Prod.mk.injEq] at h
      obtain ⟨rfl, rfl⟩ := h
      subst e; rfl
    · rw [idxK_shift r k 0 1] at h
      cases hx : idxK r k 0 with
      | none => rw [hx] at h; cases h
      | some p =>
        rw [hx] at h
        simp only [Option.map_some, Option.some.injEq, Prod.mk.injEq] at h
        obtain ⟨rfl, rfl⟩ := h
        have := idxK_at r k p.1 p.2 (by rw [hx])
        simpa using this
theorem MapI.set {P : Program} {t kt et : TypeId} (ht : P.underlying t = some (.map kt et)) (hk : P.underlying kt = some (.int .i64)) {w : World} {b : Nat} {kv : List (Int × Value)} (h : MapI w b kv) (k : Int) (v : Value) :
    ∃ w', (Instr.mapUpdate t (.map (some b)) (.int .i64 k) v).run P w = .ok () w' ∧ MapI w' b (updM kv k v) ∧ Fr (fun q => q = b) w w' := by
  have hlt := h.lt
  obtain ⟨es, c, h1, h2⟩ := h.ex
  have hf : Instr.findNow (.int .i64) (.int .i64 k) es.toList 0 = some (idxK kv k 0) := findNow_kv _ _ _ h2
  have hc : ∀ e, (Instr.checkKey e 10000 kt (.int .i64 k)).run P w = .ok () w := fun e => MapKept.run_checkKey (k := .int .i64 k) hk (by simp [MapKept.IsKey]) e 9999
  have fr : ∀ o, Fr (fun q => q = b) w { w with heap := w.heap.setIfInBounds b o } := fun o => ⟨rfl, rfl, rfl, by simp, fun q _ hq => Array.getElem?_setIfInBounds_ne fun e => hq e.symm⟩
  have at_ : ∀ o, (w.heap.setIfInBounds b o)[b]? = some o := fun o => by simp [Array.getElem?_setIfInBounds, hlt]
  cases hx : idxK kv k 0 with
  | none =>
    rw [hx] at hf
    refine ⟨_, ?_, ⟨_, _, at_ (.map (es.push { key := .int .i64 k, val := v, born := c }) (c + 1)), updM_push h2 hx⟩, fr _⟩
    simp [Instr.mapUpdate, underlying_run ht, MapKept.run_getObj_map h1, hc, MapKept.run_findKey hk hf, MapKept.run_setObj_map _ h1]
  | some p =>
    obtain ⟨j, u⟩ := p
    rw [hx] at hf
    have hj : ∃ e, es[j]? = some e ∧ e.key = .int .i64 k := by
      have h4 := idxK_at kv k j u hx
      have h5 : (es.toList.map (fun e => (e.key, e.val)))[j]? = some (.int .i64 k, u) := by rw [h2, List.getElem?_map, h4]; rfl
      rw [List.getElem?_map, Option.map_eq_some_iff] at h5
      obtain ⟨e, he, h6⟩ := h5
      simp only [Prod.mk.injEq] at h6
      exact ⟨e, by simpa using he, h6.1⟩
    obtain ⟨e, he, hke⟩ := hj
    refine ⟨_, ?_, ⟨_, _, at_ (.map (es.modify j fun e => { e with key := .int .i64 k, val := v }) c), ?_⟩, fr _⟩
    · have hs : Instr.sameBits 10000 (.int .i64 k) (.int .i64 k) = true := by simp [Instr.sameBits]
      simp [Instr.mapUpdate, underlying_run ht, MapKept.run_getObj_map h1, hc, MapKept.run_findKey hk hf, MapKept.run_setObj_map _ h1, Instr.keyThatStays, he, hke, hs]
    · rw [Array.toList_modify]
      exact updM_modify es.toList kv j h2 hx
def mapSize (w : World) (b : Nat) : Nat := match w.heap[b]? with | some (.map es _) => es.size | _ => 0
theorem MapI.size {w : World} {b : Nat} {kv : List (Int × Value)} (h : MapI w b kv) : mapSize w b = kv.length := by
  obtain ⟨es, c, h1, h2⟩ := h.ex
  unfold mapSize
  rw [h1]
  have := congrArg List.length h2
  simpa using this
end Go.Proofs.Ytmjpnfapjcfejaa.VC
