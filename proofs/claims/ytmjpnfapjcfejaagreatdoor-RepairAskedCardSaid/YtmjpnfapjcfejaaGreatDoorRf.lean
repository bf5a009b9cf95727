/- Maps whose keys are ints: what they hold, as a list of pairs in the order of their making. No condition. -/
import Derived.Test.YtmjpnfapjcfejaaGreatDoorVr
import Derived.MapKept
import Derived.Carry
import Derived.Maps.RangeRun
import Derived.Test.YtmjpnfapjcfejaaGreatDoorRd
namespace Go.Proofs.YtmjpnfapjcfejaaGreatDoor.VC
open Go Go.RowKit
set_option linter.unusedSimpArgs false
set_option linter.unusedVariables false

def idxK : List (Int × Value) → Int → Nat → Option (Nat × Value)
  | [], _, _ => none
  | (a, v) :: r, k, i => if k = a then some (i, v) else idxK r k (i + 1)
def getM (kv : List (Int × Value)) (k : Int) : Option Value := (idxK kv k 0).map (·.2)
def updM : List (Int × Value) → Int → Value → List (Int × Value)
  | [], k, v => [(k, v)]
  | (a, u) :: r, k, v => if k = a then (a, v) :: r else (a, u) :: updM r k v
theorem idxK_shift : ∀ (kv : List (Int × Value)) (k : Int) (i j : Nat), idxK kv k (i + j) = (idxK kv k i).map fun p => (p.1 + j, p.2)
  | [], _, _, _ => rfl
  | (a, v) :: r, k, i, j => by
    unfold idxK
    split
    · rfl
    · rw [show i + j + 1 = i + 1 + j by omega]; exact idxK_shift r k (i + 1) j
theorem getM_cons (a : Int) (v : Value) (r : List (Int × Value)) (k : Int) : getM ((a, v) :: r) k = if k = a then some v else getM r k := by
  unfold getM
  conv => lhs; unfold idxK
  split
  · rfl
  · rw [idxK_shift r k 0 1]; cases idxK r k 0 <;> rfl
theorem getM_upd : ∀ (kv : List (Int × Value)) (k j : Int) (v : Value), getM (updM kv k v) j = if j = k then some v else getM kv j
  | [], k, j, v => by unfold updM; rw [getM_cons]
  | (a, u) :: r, k, j, v => by
    unfold updM
    by_cases h : k = a
    · subst h
      rw [if_pos rfl, getM_cons, getM_cons]
      by_cases h2 : j = k <;> simp [h2]
    · rw [if_neg h, getM_cons, getM_cons, getM_upd r k j v]
      by_cases h2 : j = a
      · have : ¬ j = k := fun e => h (e.symm.trans h2)
        simp [h2, this]
        intro e; exact absurd e.symm h
      · simp [h2]
theorem getM_none : ∀ (kv : List (Int × Value)) (k : Int), getM kv k = none → updM kv k = fun v => kv ++ [(k, v)]
  | [], k, _ => rfl
  | (a, u) :: r, k, h => by
    rw [getM_cons] at h
    split at h
    · cases h
    · rename_i hne
      funext v
      unfold updM
      rw [if_neg hne, getM_none r k h]
      rfl
theorem idxK_none {kv : List (Int × Value)} {k : Int} (h : getM kv k = none) : idxK kv k 0 = none := by
  unfold getM at h
  simpa using h
/-- What a map holds. -/
structure MapI (w : World) (b : Nat) (kv : List (Int × Value)) : Prop where
  ex : ∃ es clock, w.heap[b]? = some (.map es clock) ∧ es.toList.map (fun e => (e.key, e.val)) = kv.map fun p => (Value.int .i64 p.1, p.2)
theorem MapI.lt {w : World} {b : Nat} {kv : List (Int × Value)} (h : MapI w b kv) : b < w.heap.size := by
  obtain ⟨es, c, h1, _⟩ := h.ex
  exact (Array.getElem?_eq_some_iff.1 h1).1
theorem MapI.fr {S : Nat → Prop} {w w' : World} {b : Nat} {kv : List (Int × Value)} (h : MapI w b kv) (hf : Fr S w w') (hs : ¬ S b) : MapI w' b kv := by
  have hlt := h.lt
  obtain ⟨es, c, h1, h2⟩ := h.ex
  exact ⟨es, c, (hf.block b hlt hs).trans h1, h2⟩
theorem MapI.grow {w w' : World} {b : Nat} {kv : List (Int × Value)} (h : MapI w b kv) (hf : Grow w w') : MapI w' b kv := h.fr (Fr.of_grow (S := fun _ => False) hf) id
theorem MapI.make {P : Program} (t : TypeId) (w : World) {K : Value → World → Prop} (hk : ∀ w', w' = w.alloc (.map #[] 0) → MapI w' w.heap.size [] → Grow w w' → w'.heap.size = w.heap.size + 1 → K (.map (some w.heap.size)) w') :
    ∃ v : Value, ∃ w' : World, (Instr.makeMap t none).run P w = .ok v w' ∧ K v w' := by
  refine ⟨_, _, run_makeMap t w, hk _ rfl ⟨#[], 0, heap_alloc_new w _, rfl⟩ ((Grow.refl w).alloc _) (by simp)⟩
theorem findNow_kv {k : Int} : ∀ (l : List MapEntry) (kv : List (Int × Value)) (i : Nat), l.map (fun e => (e.key, e.val)) = kv.map (fun p => (Value.int .i64 p.1, p.2)) → Instr.findNow (.int .i64) (.int .i64 k) l i = some (idxK kv k i)
  | [], kv, i, h => by
    have : kv = [] := by simpa using h.symm
    subst this; rfl
  | e :: l, [], i, h => by simp at h
  | e :: l, (a, v) :: r, i, h => by
    simp only [List.map_cons, List.cons.injEq, Prod.mk.injEq] at h
    obtain ⟨⟨h1, h2⟩, h3⟩ := h
    unfold Instr.findNow idxK
    rw [h1]
    simp only [Instr.sameNow, if_true]
    by_cases e1 : k = a
    · subst e1; simp [h2]
    · have : (k == a) = false := by simpa using e1
      simp only [this, if_neg e1]
      exact findNow_kv l r (i + 1) h3
theorem MapI.len {P : Program} {t kt et ty : TypeId} (ht : P.underlying t = some (.map kt et)) {w : World} {b : Nat} {kv : List (Int × Value)} (h : MapI w b kv) : (Builtin.len_ #[t] ty #[.map (some b)]).run P w = .ok (.int .i64 (kv.length : Int)) w := by
  obtain ⟨es, c, h1, h2⟩ := h.ex
  have : es.size = kv.length := by have := congrArg List.length h2; simpa using this
  simp [Builtin.len_, underlying_run ht, MapKept.run_getObj_map h1, goInt, this]
theorem MapI.get {P : Program} {t kt et : TypeId} {i : TypeInfo} {z : Value} (ht : P.underlying t = some (.map kt et)) (hk : P.underlying kt = some (.int .i64)) (hi : P.info? et = some i) (hz : i.zero = some z) {w : World} {b : Nat} {kv : List (Int × Value)} (h : MapI w b kv) (k : Int) (ok : Bool) :
    (Instr.lookup t (.map (some b)) (.int .i64 k) ok).run P w = .ok (if ok then .tuple #[(getM kv k).getD z, .bool (getM kv k).isSome] else (getM kv k).getD z) w := by
  obtain ⟨es, c, h1, h2⟩ := h.ex
  have hf : Instr.findNow (.int .i64) (.int .i64 k) es.toList 0 = some (idxK kv k 0) := findNow_kv _ _ _ h2
  have hc : ∀ e, (Instr.checkKey e 10000 kt (.int .i64 k)).run P w = .ok () w := fun e => MapKept.run_checkKey (k := .int .i64 k) hk (by simp [MapKept.IsKey]) e 9999
  have hzr : (zeroValue et).run P w = .ok z w := by simp [zeroValue, typeInfo, hi, hz]
  simp only [Instr.lookup, Sem.run_bind, underlying_run ht, Result.andThen_ok, MapKept.run_getObj_map h1, Sem.run_pure, hc, MapKept.run_findKey hk hf]
  unfold getM
  cases hx : idxK kv k 0 with
  | none => simp [hzr]
  | some p => simp
theorem updM_push {es : Array MapEntry} {kv : List (Int × Value)} {k : Int} {v : Value} {c : Nat} (h : es.toList.map (fun e => (e.key, e.val)) = kv.map fun p => (Value.int .i64 p.1, p.2)) (hn : idxK kv k 0 = none) :
    (es.push { key := .int .i64 k, val := v, born := c }).toList.map (fun e => (e.key, e.val)) = (updM kv k v).map fun p => (Value.int .i64 p.1, p.2) := by
  have : getM kv k = none := by unfold getM; rw [hn]; rfl
  rw [getM_none kv k this]
  simp [h]
theorem updM_modify {k : Int} {v u : Value} : ∀ (l : List MapEntry) (kv : List (Int × Value)) (j : Nat), l.map (fun e => (e.key, e.val)) = kv.map (fun p => (Value.int .i64 p.1, p.2)) → idxK kv k 0 = some (j, u) →
    (l.modify j fun e => { e with key := .int .i64 k, val := v }).map (fun e => (e.key, e.val)) = (updM kv k v).map fun p => (Value.int .i64 p.1, p.2)
  | [], kv, j, h, hi => by
    have : kv = [] := by simpa using h.symm
    subst this; cases hi
  | e :: l, [], j, h, hi => by cases hi
  | e :: l, (a, u') :: r, j, h, hi => by
    have h0 := h
    simp only [List.map_cons, List.cons.injEq, Prod.mk.injEq] at h
    obtain ⟨⟨h1, h2⟩, h3⟩ := h
    unfold idxK at hi
    unfold updM
    split at hi
    · rename_i e1
      simp only [Option.some.injEq, Prod.mk.injEq] at hi
      obtain ⟨rfl, rfl⟩ := hi
      subst e1
      rw [if_pos rfl]
      simp [h3]
    · rename_i e1
      rw [if_neg e1]
      rw [idxK_shift r k 0 1] at hi
      cases hx : idxK r k 0 with
      | none => rw [hx] at hi; cases hi
      | some p =>
        rw [hx] at hi
        simp only [Option.map_some, Option.some.injEq, Prod.mk.injEq] at hi
        obtain ⟨rfl, rfl⟩ := hi
        have := updM_modify (v := v) l r p.1 h3 (by rw [hx])
        simp only [List.modify_succ_cons, List.map_cons]
        rw [this, h1, h2]
theorem idxK_at : ∀ (kv : List (Int × Value)) (k : Int) (j : Nat) (u : Value), idxK kv k 0 = some (j, u) → kv[j]? = some (k, u)
  | [], _, _, _, h => by cases h
  | (a, v) :: r, k, j, u, h => by
    unfold idxK at h
    split at h
    · rename_i e
      simp only [Option.some.injEq, Prod.mk.injEq] at h
      obtain ⟨rfl, rfl⟩ := h
      subst e; rfl
    · rw [idxK_shift r k 0 1] at h
      cases hx : idxK r k 0 with
      | none => rw [hx] at h; cases h
      | some p =>
        rw [hx] at h
        simp only [Option.map_some, Option.some.injEq, Prod.mk.injEq] at h
        obtain ⟨rfl, rfl⟩ := h
        have := idxK_at r k p.1 p.2 (by rw [hx])
        simpa using this
theorem MapI.set {P : Program} {t kt et : TypeId} (ht : P.underlying t = some (.map kt et)) (hk : P.underlying kt = some (.int .i64)) {w : World} {b : Nat} {kv : List (Int × Value)} (h : MapI w b kv) (k : Int) (v : Value) :
    ∃ w', (Instr.mapUpdate t (.map (some b)) (.int .i64 k) v).run P w = .ok () w' ∧ MapI w' b (updM kv k v) ∧ Fr (fun q => q = b) w w' := by
  have hlt := h.lt
  obtain ⟨es, c, h1, h2⟩ := h.ex
  have hf : Instr.findNow (.int .i64) (.int .i64 k) es.toList 0 = some (idxK kv k 0) := findNow_kv _ _ _ h2
  have hc : ∀ e, (Instr.checkKey e 10000 kt (.int .i64 k)).run P w = .ok () w := fun e => MapKept.run_checkKey (k := .int .i64 k) hk (by simp [MapKept.IsKey]) e 9999
  have fr : ∀ o, Fr (fun q => q = b) w { w with heap := w.heap.setIfInBounds b o } := fun o => ⟨rfl, rfl, rfl, by simp, fun q _ hq => Array.getElem?_setIfInBounds_ne fun e => hq e.symm⟩
  have at_ : ∀ o, (w.heap.setIfInBounds b o)[b]? = some o := fun o => by simp [Array.getElem?_setIfInBounds, hlt]
  cases hx : idxK kv k 0 with
  | none =>
    rw [hx] at hf
    refine ⟨_, ?_, ⟨_, _, at_ (.map (es.push { key := .int .i64 k, val := v, born := c }) (c + 1)), updM_push h2 hx⟩, fr _⟩
    simp [Instr.mapUpdate, underlying_run ht, MapKept.run_getObj_map h1, hc, MapKept.run_findKey hk hf, MapKept.run_setObj_map _ h1]
  | some p =>
    obtain ⟨j, u⟩ := p
    rw [hx] at hf
    have hj : ∃ e, es[j]? = some e ∧ e.key = .int .i64 k := by
      have h4 := idxK_at kv k j u hx
      have h5 : (es.toList.map (fun e => (e.key, e.val)))[j]? = some (.int .i64 k, u) := by rw [h2, List.getElem?_map, h4]; rfl
      rw [List.getElem?_map, Option.map_eq_some_iff] at h5
      obtain ⟨e, he, h6⟩ := h5
      simp only [Prod.mk.injEq] at h6
      exact ⟨e, by simpa using he, h6.1⟩
    obtain ⟨e, he, hke⟩ := hj
    refine ⟨_, ?_, ⟨_, _, at_ (.map (es.modify j fun e => { e with key := .int .i64 k, val := v }) c), ?_⟩, fr _⟩
    · have hs : Instr.sameBits 10000 (.int .i64 k) (.int .i64 k) = true := by simp [Instr.sameBits]
      simp [Instr.mapUpdate, underlying_run ht, MapKept.run_getObj_map h1, hc, MapKept.run_findKey hk hf, MapKept.run_setObj_map _ h1, Instr.keyThatStays, he, hke, hs]
    · rw [Array.toList_modify]
      exact updM_modify es.toList kv j h2 hx
def mapSize (w : World) (b : Nat) : Nat := match w.heap[b]? with | some (.map es _) => es.size | _ => 0
theorem MapI.size {w : World} {b : Nat} {kv : List (Int × Value)} (h : MapI w b kv) : mapSize w b = kv.length := by
  obtain ⟨es, c, h1, h2⟩ := h.ex
  unfold mapSize
  rw [h1]
  have := congrArg List.length h2
  simpa using this
end Go.Proofs.YtmjpnfapjcfejaaGreatDoor.VC

/- Maps whose keys are ints, gone through by range. No condition. -/
namespace Go.Proofs.YtmjpnfapjcfejaaGreatDoor.VC
open Go Go.RowKit
open Go.ChangeMaps (setBlock)
set_option linter.unusedSimpArgs false
set_option linter.unusedVariables false

/-- What a map holds, each entry with a stamp of its own. -/
structure MapSt (w : World) (b : Nat) (kv : List (Int × Value)) : Prop where
  ex : ∃ es clock, w.heap[b]? = some (.map es clock) ∧ es.toList.map (fun e => (e.key, e.val)) = kv.map (fun p => (Value.int .i64 p.1, p.2)) ∧ (∀ e ∈ es.toList, e.born < clock) ∧ (es.toList.map (·.born)).Nodup
section
variable {w w' : World} {b : Nat} {kv : List (Int × Value)}
theorem MapSt.toI (h : MapSt w b kv) : MapI w b kv := by
  obtain ⟨es, c, h1, h2, _⟩ := h.ex
  exact ⟨es, c, h1, h2⟩
theorem MapSt.lt (h : MapSt w b kv) : b < w.heap.size := h.toI.lt
theorem MapSt.fr {S : Nat → Prop} (h : MapSt w b kv) (hf : Fr S w w') (hs : ¬ S b) : MapSt w' b kv := by
  have hlt := h.lt
  obtain ⟨es, c, h1, h2⟩ := h.ex
  exact ⟨es, c, (hf.block b hlt hs).trans h1, h2⟩
theorem MapSt.grow (h : MapSt w b kv) (hf : Grow w w') : MapSt w' b kv := h.fr (Fr.of_grow (S := fun _ => False) hf) id
theorem MapSt.make {P : Program} (t : TypeId) (w : World) {K : Value → World → Prop} (hk : ∀ w', w' = w.alloc (.map #[] 0) → MapSt w' w.heap.size [] → Grow w w' → w'.heap.size = w.heap.size + 1 → K (.map (some w.heap.size)) w') :
    ∃ v : Value, ∃ w' : World, (Instr.makeMap t none).run P w = .ok v w' ∧ K v w' := by
  refine ⟨_, _, run_makeMap t w, hk _ rfl ⟨#[], 0, heap_alloc_new w _, rfl, fun e he => by simp at he, by simp⟩ ((Grow.refl w).alloc _) (by simp)⟩
theorem map_modify_born {f : MapEntry → MapEntry} (hf : ∀ e, (f e).born = e.born) : ∀ (l : List MapEntry) (j : Nat), (l.modify j f).map (·.born) = l.map (·.born)
  | [], j => by simp
  | e :: r, 0 => by simp [hf]
  | e :: r, j + 1 => by simp [map_modify_born hf r j]
theorem MapSt.set {P : Program} {t kt et : TypeId} (ht : P.underlying t = some (.map kt et)) (hk : P.underlying kt = some (.int .i64)) (h : MapSt w b kv) (k : Int) (v : Value) :
    ∃ w', (Instr.mapUpdate t (.map (some b)) (.int .i64 k) v).run P w = .ok () w' ∧ MapSt w' b (updM kv k v) ∧ Fr (fun q => q = b) w w' := by
  have hlt := h.lt
  obtain ⟨es, c, h1, h2, h3, h4⟩ := h.ex
  have hf : Instr.findNow (.int .i64) (.int .i64 k) es.toList 0 = some (idxK kv k 0) := findNow_kv _ _ _ h2
  have hc : ∀ e, (Instr.checkKey e 10000 kt (.int .i64 k)).run P w = .ok () w := fun e => MapKept.run_checkKey (k := .int .i64 k) hk (by simp [MapKept.IsKey]) e 9999
  have fr : ∀ o, Fr (fun q => q = b) w { w with heap := w.heap.setIfInBounds b o } := fun o => ⟨rfl, rfl, rfl, by simp, fun q _ hq => Array.getElem?_setIfInBounds_ne fun e => hq e.symm⟩
  have at_ : ∀ o, (w.heap.setIfInBounds b o)[b]? = some o := fun o => by simp [Array.getElem?_setIfInBounds, hlt]
  cases hx : idxK kv k 0 with
  | none =>
    rw [hx] at hf
    refine ⟨_, ?_, ⟨_, _, at_ (.map (es.push { key := .int .i64 k, val := v, born := c }) (c + 1)), updM_push h2 hx, ?_, ?_⟩, fr _⟩
    · simp [Instr.mapUpdate, underlying_run ht, MapKept.run_getObj_map h1, hc, MapKept.run_findKey hk hf, MapKept.run_setObj_map _ h1]
    · intro e he
      simp only [Array.toList_push, List.mem_append, List.mem_singleton] at he
      rcases he with he | rfl
      · have := h3 e he; omega
      · show c < c + 1
        omega
    · rw [Array.toList_push, List.map_append]
      refine List.nodup_append.2 ⟨h4, by simp, fun a ha b hb e => ?_⟩
      obtain ⟨x, hx, rfl⟩ := List.mem_map.1 ha
      have := h3 x hx
      simp at hb
      omega
  | some p =>
    obtain ⟨j, u⟩ := p
    rw [hx] at hf
    have hj : ∃ e, es[j]? = some e ∧ e.key = .int .i64 k := by
      have h4 := idxK_at kv k j u hx
      have h5 : (es.toList.map (fun e => (e.key, e.val)))[j]? = some (.int .i64 k, u) := by rw [h2, List.getElem?_map, h4]; rfl
      rw [List.getElem?_map, Option.map_eq_some_iff] at h5
      obtain ⟨e, he, h6⟩ := h5
      simp only [Prod.mk.injEq] at h6
      exact ⟨e, by simpa using he, h6.1⟩
    obtain ⟨e, he, hke⟩ := hj
    have hborn : ((es.modify j fun e => { e with key := .int .i64 k, val := v }).toList.map (·.born)) = es.toList.map (·.born) := by
      rw [Array.toList_modify]
      exact map_modify_born (f := fun e => { e with key := .int .i64 k, val := v }) (fun _ => rfl) _ _
    refine ⟨_, ?_, ⟨_, _, at_ (.map (es.modify j fun e => { e with key := .int .i64 k, val := v }) c), ?_, fun x hx' => ?_, by rw [hborn]; exact h4⟩, fr _⟩
    · have hs : Instr.sameBits 10000 (.int .i64 k) (.int .i64 k) = true := by simp [Instr.sameBits]
      simp [Instr.mapUpdate, underlying_run ht, MapKept.run_getObj_map h1, hc, MapKept.run_findKey hk hf, MapKept.run_setObj_map _ h1, Instr.keyThatStays, he, hke, hs]
    · rw [Array.toList_modify]
      exact updM_modify es.toList kv j h2 hx
    · have : x.born ∈ es.toList.map (·.born) := by rw [← hborn]; exact List.mem_map.2 ⟨x, hx', rfl⟩
      obtain ⟨y, hy, e⟩ := List.mem_map.1 this
      rw [← e]
      exact h3 y hy
/-! ## range -/
def kvE (e : MapEntry) : Int × Value := (match e.key with | .int _ k => k | _ => 0, e.val)
/-- A range under way: what is still to come, in any order. -/
structure ItS (w : World) (b r : Nat) (kv left : List (Int × Value)) : Prop where
  ex : ∃ es clock since seen c0, w.heap[b]? = some (.map es clock) ∧ es.toList.map (fun e => (e.key, e.val)) = kv.map (fun p => (Value.int .i64 p.1, p.2)) ∧ (∀ e ∈ es.toList, e.born < since) ∧ (es.toList.map (·.born)).Nodup ∧ w.heap[r]? = some (.mapIter (some b) since seen c0) ∧ since ≤ c0 ∧ since ≤ clock ∧ left = ((es.toList.filter fun e => !seen.contains e.born).map kvE)
theorem kv_of {es : List MapEntry} (h : es.map (fun e => (e.key, e.val)) = kv.map (fun p => (Value.int .i64 p.1, p.2))) : es.map kvE = kv := by
  have : (es.map (fun e => (e.key, e.val))).map (fun p => ((match p.1 with | .int _ k => k | _ => 0 : Int), p.2)) = kv := by
    rw [h, List.map_map]
    conv => rhs; rw [← List.map_id kv]
    rfl
  rw [List.map_map] at this
  exact this
theorem key_of {es : List MapEntry} (h : es.map (fun e => (e.key, e.val)) = kv.map (fun p => (Value.int .i64 p.1, p.2))) : ∀ e ∈ es, e.key = .int .i64 (kvE e).1 := by
  intro e he
  have : (e.key, e.val) ∈ kv.map (fun p => (Value.int .i64 p.1, p.2)) := h ▸ List.mem_map.2 ⟨e, he, rfl⟩
  obtain ⟨p, hp, e2⟩ := List.mem_map.1 this
  have e3 : e.key = Value.int .i64 p.1 := (congrArg Prod.fst e2).symm
  unfold kvE
  rw [e3]
theorem ItS.fr {r : Nat} {left : List (Int × Value)} {S : Nat → Prop} (h : ItS w b r kv left) (hf : Fr S w w') (hb : ¬ S b) (hr : ¬ S r) : ItS w' b r kv left := by
  obtain ⟨es, clock, since, seen, c0, h1, h2, h3, h4, h5, h6⟩ := h.ex
  exact ⟨es, clock, since, seen, c0, (hf.block b (Array.getElem?_eq_some_iff.1 h1).1 hb).trans h1, h2, h3, h4, (hf.block r (Array.getElem?_eq_some_iff.1 h5).1 hr).trans h5, h6⟩
theorem ItS.grow {r : Nat} {left : List (Int × Value)} (h : ItS w b r kv left) (hf : Grow w w') : ItS w' b r kv left := h.fr (Fr.of_grow (S := fun _ => False) hf) id id
theorem MapSt.range {P : Program} {t kt et : TypeId} (ht : P.underlying t = some (.map kt et)) (h : MapSt w b kv) {K : Value → World → Prop} (hk : ∀ w', ItS w' b w.heap.size kv kv → Grow w w' → w'.heap.size = w.heap.size + 1 → K (.pointer (some ⟨w.heap.size, 0, none⟩)) w') :
    ∃ v : Value, ∃ w' : World, (Instr.range t (.map (some b))).run P w = .ok v w' ∧ K v w' := by
  obtain ⟨es, c, h1, h2, h3, h4⟩ := h.ex
  have hg : Grow w (w.alloc (.mapIter (some b) c #[] c)) := (Grow.refl w).alloc _
  refine ⟨_, _, run_range_map w t kt et b es c ht h1, hk _ ⟨es, c, c, #[], c, ?_, h2, h3, h4, heap_alloc_new w _, Nat.le_refl _, Nat.le_refl _, ?_⟩ hg (by simp)⟩
  · exact (hg.block b (Array.getElem?_eq_some_iff.1 h1).1).trans h1
  · have e : es.toList.filter (fun e => !(#[] : Array Nat).contains e.born) = es.toList := List.filter_eq_self.2 fun x _ => by simp
    rw [e, kv_of h2]
theorem perm_out {α : Type} {β : Type} [DecidableEq β] (f : α → β) : ∀ {l : List α} {e : α}, (l.map f).Nodup → e ∈ l → l.Perm (e :: l.filter fun x => decide (f x ≠ f e))
  | a :: r, e, hn, he => by
    rw [List.map_cons, List.nodup_cons] at hn
    rcases List.mem_cons.1 he with rfl | he
    · have : (e :: r).filter (fun x => decide (f x ≠ f e)) = r := by
        rw [List.filter_cons, if_neg (by simp)]
        refine List.filter_eq_self.2 fun x hx => decide_eq_true fun h => hn.1 ?_
        rw [← h]
        exact List.mem_map.2 ⟨x, hx, rfl⟩
      rw [this]
    · have hne : f a ≠ f e := fun h => hn.1 (h ▸ List.mem_map.2 ⟨e, he, rfl⟩)
      rw [List.filter_cons, if_pos (by simpa using hne)]
      exact ((perm_out f hn.2 he).cons a).trans (List.Perm.swap _ _ _)
/-- The step: nothing is left, or one of what is left comes out. -/
theorem ItS.next {P : Program} {r : Nat} {left : List (Int × Value)} (h : ItS w b r kv left) (hrb : r ≠ b) (ty : TypeId) :
    (left = [] ∧ (Instr.next (.pointer (some ⟨r, 0, none⟩)) false ty).run P w = .ok (.tuple #[.bool false]) w) ∨
    ∃ p left' w', left.Perm (p :: left') ∧ (Instr.next (.pointer (some ⟨r, 0, none⟩)) false ty).run P w = .ok (.tuple #[.bool true, .int .i64 p.1, p.2]) w' ∧ ItS w' b r kv left' ∧ Fr (fun q => q = r) w w' ∧ (Instr.entry (.pointer (some ⟨r, 0, none⟩))).run P w' = .ok (.tuple #[.int .i64 p.1, p.2]) w' := by
  obtain ⟨es, clock, since, seen, c0, h1, h2, h3, h4, h5, h6, h7, rfl⟩ := h.ex
  have hl : (leftOf es seen).toList = es.toList.filter fun e => !seen.contains e.born := by
    unfold leftOf
    simp
  rcases run_next_at (P := P) w ty r b since c0 seen es clock h5 h1 h3 h6 with ⟨h0, hrun⟩ | ⟨e, he, w1, hw1, hrun⟩
  · refine .inl ⟨?_, hrun⟩
    rw [← hl]
    have : (leftOf es seen).toList = [] := by
      apply List.eq_nil_of_length_eq_zero
      simpa using h0
    rw [this]
    rfl
  · refine .inr ⟨kvE e, (es.toList.filter fun x => !(seen.push e.born).contains x.born).map kvE, setBlock w1 r (.mapIter (some b) since (seen.push e.born) clock), ?_, ?_, ?_, ?_, ?_⟩
    · rw [hl] at he
      have hperm := perm_out (·.born) (l := es.toList.filter fun e => !seen.contains e.born) (e := e) (h4.sublist (List.Sublist.map _ (List.filter_sublist ..))) he
      have e2 : (es.toList.filter fun e => !seen.contains e.born).filter (fun x => decide (x.born ≠ e.born)) = es.toList.filter fun x => !(seen.push e.born).contains x.born := by
        rw [List.filter_filter]
        refine List.filter_congr fun x _ => ?_
        rw [Bool.eq_iff_iff]
        simp only [Bool.and_eq_true, decide_eq_true_eq, Bool.not_eq_true', ← Bool.not_eq_true, Array.contains_iff_mem, Array.mem_push, not_or]
        exact ⟨fun h => ⟨h.2, h.1⟩, fun h => ⟨h.2, h.1⟩⟩
      rw [e2] at hperm
      exact hperm.map kvE
    · have hm : e ∈ es.toList := by
        rw [hl] at he
        exact (List.mem_filter.1 he).1
      rw [hrun, key_of h2 e hm]
      rfl
    · have hb1 : (setBlock w1 r (.mapIter (some b) since (seen.push e.born) clock)).heap[b]? = some (.map es clock) := by
        have : w1.heap = w.heap := by rcases hw1 with rfl | rfl <;> rfl
        simp [setBlock, this, Array.getElem?_setIfInBounds_ne hrb, h1]
      have hr1 : (setBlock w1 r (.mapIter (some b) since (seen.push e.born) clock)).heap[r]? = some (.mapIter (some b) since (seen.push e.born) clock) := by
        have : w1.heap = w.heap := by rcases hw1 with rfl | rfl <;> rfl
        simp [setBlock, this, Array.getElem?_setIfInBounds, (Array.getElem?_eq_some_iff.1 h5).1]
      exact ⟨es, clock, since, seen.push e.born, clock, hb1, h2, h3, h4, hr1, h7, h7, rfl⟩
    · rcases hw1 with rfl | rfl
      · exact ⟨rfl, rfl, rfl, by simp [setBlock], fun q _ hq => Array.getElem?_setIfInBounds_ne (Ne.symm hq)⟩
      · exact ⟨rfl, rfl, rfl, by simp [setBlock], fun q _ hq => Array.getElem?_setIfInBounds_ne (Ne.symm hq)⟩
    · have hm : e ∈ es.toList := by
        rw [hl] at he
        exact (List.mem_filter.1 he).1
      have hb1 : (setBlock w1 r (.mapIter (some b) since (seen.push e.born) clock)).heap[b]? = some (.map es clock) := by
        have : w1.heap = w.heap := by rcases hw1 with rfl | rfl <;> rfl
        simp [setBlock, this, Array.getElem?_setIfInBounds_ne hrb, h1]
      have hr1 : (setBlock w1 r (.mapIter (some b) since (seen.push e.born) clock)).heap[r]? = some (.mapIter (some b) since (seen.push e.born) clock) := by
        have : w1.heap = w.heap := by rcases hw1 with rfl | rfl <;> rfl
        simp [setBlock, this, Array.getElem?_setIfInBounds, (Array.getElem?_eq_some_iff.1 h5).1]
      have := run_entry_at (P := P) (setBlock w1 r (.mapIter (some b) since (seen.push e.born) clock)) r b since seen es clock e hr1 hb1 hm h4
      rw [this, key_of h2 e hm]
      rfl
end
end Go.Proofs.YtmjpnfapjcfejaaGreatDoor.VC

/- Contracts: valid books, keys, blocks, by the program. No condition. -/
namespace Go.Proofs.YtmjpnfapjcfejaaGreatDoor
open Go Go.RowKit VC
set_option linter.unusedSimpArgs false
set_option linter.unusedVariables false

theorem el_mapI : Tryz.prog.underlying 113 = some (.map 3 3) ∧ Tryz.prog.underlying 3 = some (.int .i64) ∧ Tryz.prog.info? 3 = some Tryz.t3 ∧ Tryz.t3.zero = some (.int .i64 0) := ⟨by kernel_rfl, by kernel_rfl, by kernel_rfl, by kernel_rfl⟩
theorem pinR {α : Type} {k : Nat} {rep : World → List Value → α → Prop} {w0 w : World} {v : Value} {xs : List α} (h : SlX k rep w0 v xs) (g : Grow w0 w) : SlX k (fun _ cs x => rep w0 cs x) w v xs := by
  obtain ⟨a, c, e, h1, h2, h3, h4⟩ := h.ex
  exact ⟨a, c, e, h1, h2, h3, fun i hi => by
    obtain ⟨b, cs, e1, e2, e3, e4⟩ := h4 i hi
    exact ⟨b, cs, e1, e2, fun t u ht => g.cell (e3 t u ht), e4⟩⟩
/-- A fact or an atom, copied into a variable; its Args as they stood before. -/
theorem locR {P : Program} {w0 w : World} {v : Value} {l : List Atm} (h : SlA w0 v l) (g : Grow w0 w) {i : Nat} {j : Int} (hj : j = (i : Int)) (hi : i < l.length) {zs : Array Value} (hz : zs.size = 2) {t : TypeId} {K : World → Prop}
    (hk : ∀ w2 u, Grow w w2 → w.heap.size < w2.heap.size → SlI w0 u l[i].2 → RecV w2 w.heap.size [.int .i64 l[i].1, u] → K w2) :
    ∃ (a : Addr) (m c : Nat), v = .slice (some a) m c ∧ ((0 : Int) ≤ j ∧ j < (m : Int)) ∧ ∃ cs : List Value, cs.length = 2 ∧ (∀ t u, cs[t]? = some u → w.cell? (Addr.add (a.add (Int.toNat j * 2)) t) = some u) ∧
      ∀ w1, w1 = w.alloc (.cells zs t) → ∃ cs' : Array Value, (Value.agg cs.toArray) = Value.agg cs' ∧ cs'.size = 2 ∧ ∃ w2 : World, (storeCells ⟨w.heap.size, 0, none⟩ cs'.toList).run P w1 = .ok () w2 ∧ K w2 := by
  refine SlX.rd (pinR h g) hj hi fun cs hl hr w1 hw1 => ?_
  obtain ⟨u, rfl, hu⟩ := hr
  have := RecV.init (P := P) (cs := [.int .i64 l[i].1, u]) hw1 (by rw [hz]; rfl) (by
    intro y hy
    simp at hy
    rcases hy with rfl | rfl
    · rfl
    · exact hu.one.2) (K := K) fun w2 hg hs hc => hk w2 u hg hs hu hc
  rw [hz] at this
  exact this
/-! ## Valid -/
def okAr (pre : List Atm) (f : Atm) : Bool := okF f && pre.all fun g => !decide (g.1 = f.1) || (decide (g.2.length = f.2.length) && !decide (g.2 = f.2))
def okL (L : List Atm) : Bool := L.all okF && okP L
theorem okR_okL (s : List Int) (L : List Atm) : okR s L = (okS s && decide (L.length ≤ 12) && okL L) := by
  unfold okR okL
  rw [Bool.and_assoc (okS s && decide (L.length ≤ 12))]
theorem okL_app (L : List Atm) (f : Atm) : okL (L ++ [f]) = (okL L && okAr L f) := by
  rw [Bool.eq_iff_iff]
  simp only [okL, okAr, Bool.and_eq_true, okP_iff, List.pairwise_append, List.all_append, List.all_cons, List.all_nil, Bool.and_true, List.mem_singleton, forall_eq, List.all_eq_true]
  have e : ∀ g : Atm, (!decide (g.1 = f.1) || (decide (g.2.length = f.2.length) && !decide (g.2 = f.2))) = true ↔ (g.1 = f.1 → g.2.length = f.2.length ∧ g.2 ≠ f.2) := fun g => by
    by_cases h : g.1 = f.1
    · simp [h]
    · simp [h]
  constructor
  · rintro ⟨⟨h1, h2⟩, h3, -, h4⟩
    exact ⟨⟨h1, h3⟩, h2, fun g hg => (e g).2 (h4 g hg)⟩
  · rintro ⟨⟨h1, h3⟩, h2, h4⟩
    exact ⟨⟨h1, h2⟩, h3, List.pairwise_singleton _ _, fun g hg => (e g).1 (h4 g hg)⟩
theorem okL_take {L : List Atm} (h : okL L = true) (k : Nat) : okL (L.take k) = true := by
  simp only [okL, Bool.and_eq_true, okP_iff, List.all_eq_true] at h ⊢
  exact ⟨fun a ha => h.1 a (List.mem_of_mem_take ha), h.2.sublist (List.take_sublist k L)⟩
theorem okL_bad {L : List Atm} {k : Nat} (hk : k < L.length) (h : okAr (L.take k) L[k] = false) : okL L = false := by
  rw [← Bool.not_eq_true]
  intro h2
  have := okL_take h2 (k + 1)
  rw [List.take_succ_eq_append_getElem hk, okL_app, h, Bool.and_false] at this
  cases this
theorem mkF {f : Atm} (h0 : 0 ≤ f.1) (h5 : f.1 ≤ 5) (h1 : 1 ≤ f.2.length) (h3 : f.2.length ≤ 3) (ha : ∀ x ∈ f.2, 1 ≤ x) (hb : ∀ x ∈ f.2, x ≤ 99) : okF f = true := okF_iff.2 ⟨h0, h5, h1, h3, fun x hx => ⟨ha x hx, hb x hx⟩⟩
theorem notF {f : Atm} (h : ¬ (0 ≤ f.1 ∧ f.1 ≤ 5 ∧ 1 ≤ f.2.length ∧ f.2.length ≤ 3 ∧ ∀ x ∈ f.2, 1 ≤ x ∧ x ≤ 99)) : okF f = false := by
  rw [← Bool.not_eq_true, okF_iff]
  exact h
theorem notAr {pre : List Atm} {f : Atm} (h : okF f = false) : okAr pre f = false := by rw [okAr, h, Bool.false_and]
theorem notArG {pre : List Atm} {f g : Atm} (hg : g ∈ pre) (e : g.1 = f.1) (h : g.2.length ≠ f.2.length ∨ g.2 = f.2) : okAr pre f = false := by
  rw [okAr, ← Bool.not_eq_true, Bool.and_eq_true, List.all_eq_true]
  intro h2
  have := h2.2 g hg
  rcases h with h | h <;> simp [e, h] at this
/-- The lengths that the map holds. -/
structure MapOf (kv : List (Int × Value)) (pre : List Atm) : Prop where
  has : ∀ f ∈ pre, getM kv f.1 = some (.int .i64 (f.2.length : Int))
  is : ∀ r, getM kv r ≠ none → ∃ f ∈ pre, f.1 = r
theorem MapOf.nil : MapOf [] [] := ⟨fun f hf => (by cases hf), fun r h => absurd rfl h⟩
theorem MapOf.upd {kv : List (Int × Value)} {pre : List Atm} (h : MapOf kv pre) {f : Atm} (hl : ∀ g ∈ pre, g.1 = f.1 → g.2.length = f.2.length) : MapOf (updM kv f.1 (.int .i64 (f.2.length : Int))) (pre ++ [f]) := by
  refine ⟨fun g hg => ?_, fun r hr => ?_⟩
  · rw [getM_upd]
    split
    · rename_i e
      rcases List.mem_append.1 hg with hg | hg
      · rw [hl g hg e]
      · rw [List.mem_singleton.1 hg]
    · rename_i e
      rcases List.mem_append.1 hg with hg | hg
      · exact h.has g hg
      · rw [List.mem_singleton.1 hg] at e
        exact absurd rfl e
  · rw [getM_upd] at hr
    split at hr
    · rename_i e
      exact ⟨f, List.mem_append_right _ (List.mem_singleton.2 rfl), e.symm⟩
    · obtain ⟨g, hg, e⟩ := h.is r hr
      exact ⟨g, List.mem_append_left _ hg, e⟩
theorem read1_c {w : World} {r r' : Int} {u u' : Value} {xs ys : List Int} {p : Addr} (hu : SlI w u xs) (c0 : w.cell? (p.add 0) = some (.int .i64 r')) (c1 : w.cell? (p.add 1) = some u') (hu' : SlI w u' ys) :
    Calls Tryz.prog 81 #[.agg #[.int .i64 r, u], .pointer (some p)] w (Ret w (.bool (decide (r = r') && decide (xs = ys)))) := by
  refine f81_calls _ _ ?_
  refine ⟨_, rfl, fun w1 hw1 => ?_⟩
  have g1 := alloc_grow hw1
  refine ⟨_, boxc hw1 0 _ rfl, _, g1.cell c0, condD (fun h => ⟨_, boxc hw1 1 _ rfl, _, g1.cell c1, (equal_c (hu.grow g1) (hu'.grow g1)).mono ?_⟩) fun h => ⟨?_, g1⟩⟩
  · rintro e w7 ⟨rfl, g7⟩
    exact ⟨_, rfl, by rw [decide_eq_true h, Bool.true_and], g1.trans g7⟩
  · rw [decide_eq_false h, Bool.false_and]
theorem read_c {w : World} {sv fv : Value} {s : List Int} {L : List Atm} (hs : SlI w sv s) (hl : SlA w fv L) : Calls Tryz.prog 52 #[sv, fv] w fun e w' => ∃ x y, e = .returned (.tuple #[.agg #[x, y], .bool (okR s L)]) ∧ oneV x ∧ oneV y ∧ (okR s L = true → x = sv ∧ y = fv) ∧ Grow w w' := by
  refine f52_calls _ _ ?_
  obtain ⟨um, uk, ui, uz⟩ := el_mapI
  intro w1 hw1
  have g1 := alloc_grow hw1
  have s1 := alloc_size hw1
  have hR := RecV.new hw1
  have nl : oneV (.slice none 0 0) := ⟨rfl, rfl⟩
  have no : ∀ {w'}, Grow w1 w' → okR s L = false → ∃ cs : Array Value, (Value.agg #[(.slice none 0 0), (.slice none 0 0)]) = .agg cs ∧ cs.size = 2 ∧ ∃ w2 : World, (storeCells ⟨w.heap.size, 0, none⟩ cs.toList).run Tryz.prog w' = .ok () w2 ∧ ∃ ds : List Value, ds.length = 2 ∧ (∀ (j : Nat) (v : Value), ds[j]? = some v → w2.cell? (Addr.add ⟨w.heap.size, 0, none⟩ j) = some v) ∧
      ∃ x y, Ending.returned (.tuple #[.agg ds.toArray, .bool false]) = .returned (.tuple #[.agg #[x, y], .bool (okR s L)]) ∧ oneV x ∧ oneV y ∧ (okR s L = true → x = sv ∧ y = fv) ∧ Grow w w2 := fun {w'} g hbad => by
    refine RecV.store (cs := [.slice none 0 0, .slice none 0 0]) (hR.grow g) rfl (by simp [Value.oneCell']) fun w2 hf hr => ⟨[_, _], rfl, hr.all, _, _, (by rw [hbad]), nl, nl, fun h => (by rw [hbad] at h; cases h), (g1.trans g).fr hf fun i hi e => by omega⟩
  refine hs.ln (condP_i (fun h6 => no (Grow.refl _) ?_) fun h6 => ?_)
  · have h6 : ¬ s.length = 6 := by simp at h6; omega
    rw [okR, okS, decide_eq_false h6]; simp
  have h6 : s.length = 6 := by simp at h6; omega
  refine (minI_c (hs.grow g1) (by omega)).mono ?_
  rintro e w8 ⟨mn, rfl, hmn, hmin, g8⟩
  refine ⟨_, rfl, condD (fun h => no g8 ?_) fun h => ?_⟩
  · have : s.all (fun x => decide (0 ≤ x) && decide (x ≤ 3)) = false := by
      rw [← Bool.not_eq_true, List.all_eq_true]
      intro h2
      have := h2 mn hmn
      simp at this
      omega
    rw [okR, okS, this]; simp
  refine (maxI_c (hs.grow (g1.trans g8)) (by omega)).mono ?_
  rintro e w14 ⟨mx, rfl, hmx, hmax, g14⟩
  have g114 := g8.trans g14
  refine ⟨_, rfl, condD (fun h => no g114 ?_) fun h3 => ?_⟩
  · have : s.all (fun x => decide (0 ≤ x) && decide (x ≤ 3)) = false := by
      rw [← Bool.not_eq_true, List.all_eq_true]
      intro h2
      have := h2 mx hmx
      simp at this
      omega
    rw [okR, okS, this]; simp
  have hS : okS s = true := by
    rw [okS, decide_eq_true h6, Bool.true_and, List.all_eq_true]
    intro x hx
    have := hmin x hx
    have := hmax x hx
    simp
    omega
  refine SlX.ln (hl.gr (g1.trans g114)) (condD (fun h => no g114 ?_) fun h12 => ?_)
  · rw [okR, decide_eq_false (by omega : ¬ L.length ≤ 12)]; simp
  have eR : okR s L = okL L := by rw [okR_okL, hS, decide_eq_true (by omega : L.length ≤ 12)]; rfl
  rw [eR] at no ⊢
  refine MapI.make _ w14 fun w26 hw26 hm26 g26 s26 => SlX.ln (hl.gr ((g1.trans g114).trans g26)) ?_
  have g126 := g114.trans g26
  refine ⟨fun t w' => ∃ (k : Nat) (kv : List (Int × Value)), t = k ∧ k ≤ L.length ∧ okL (L.take k) = true ∧ MapI w' w14.heap.size kv ∧ MapOf kv (L.take k) ∧ Fr (fun i => i = w14.heap.size) w26 w', fun t _ => L.length - t.toNat, ⟨0, [], rfl, by omega, rfl, hm26, MapOf.nil, Fr.refl _ _⟩, ?_⟩
  rintro - t w35 ⟨k, kv, rfl, hk, hok, hm, hkv, hf35⟩
  have gW : ∀ {w'}, Fr (fun i => i = w14.heap.size) w26 w' → Grow w1 w' := fun hf => g126.fr hf fun i hi e => by have := g114.size; omega
  have g35 := gW hf35
  refine condD (fun hlt => ?_) fun hge => ?_
  · have hkl : k < L.length := by omega
    refine locR hl (g1.trans g35) rfl hkl rfl fun w41 u g41 s41 hu hc => ?_
    have g141 := g35.trans g41
    have bad : ∀ {w'}, Grow w1 w' → okAr (L.take k) L[k] = false → _ := fun {w'} g h => no g (okL_bad hkl h)
    refine ⟨_, hc.cell (j := 0) rfl, condD (fun h => bad g141 (notAr (notF fun h2 => by omega))) fun q0 => ⟨_, hc.cell (j := 0) rfl, condD (fun h => bad g141 (notAr (notF fun h2 => by omega))) fun q5 => ?_⟩⟩
    refine ⟨_, hc.cell (j := 1) rfl, hu.ln (condD (fun h => bad g141 (notAr (notF fun h2 => by omega))) fun q1 => ⟨_, hc.cell (j := 1) rfl, hu.ln (condD (fun h => bad g141 (notAr (notF fun h2 => by omega))) fun q3 => ?_)⟩)⟩
    refine ⟨_, hc.cell (j := 1) rfl, (minI_c (hu.grow (g1.trans g141)) (by omega)).mono ?_⟩
    rintro e w66 ⟨mn2, rfl, hmn2, hmin2, g66⟩
    refine ⟨_, rfl, condD (fun h => bad (g141.trans g66) (notAr (notF fun h2 => by have := h2.2.2.2.2 _ hmn2; omega))) fun q4 => ?_⟩
    refine ⟨_, (hc.grow g66).cell (j := 1) rfl, (maxI_c (hu.grow ((g1.trans g141).trans g66)) (by omega)).mono ?_⟩
    rintro e w73 ⟨mx2, rfl, hmx2, hmax2, g73⟩
    have g4173 := g66.trans g73
    refine ⟨_, rfl, condD (fun h => bad (g141.trans g4173) (notAr (notF fun h2 => by have := h2.2.2.2.2 _ hmx2; omega))) fun q6 => ?_⟩
    have hF : okF L[k] = true := mkF (by omega) (by omega) (by omega) (by omega) (fun x hx => by have := hmin2 x hx; omega) (fun x hx => by have := hmax2 x hx; omega)
    have hc73 := hc.grow g4173
    have hm73 := (hm.grow g41).grow g4173
    have f73 : Fr (fun i => i = w14.heap.size) w26 w73 := hf35.trans (Fr.of_grow (g41.trans g4173))
    have s2635 := hf35.size
    have s4173 := g4173.size
    have s3541 := g41.size
    refine ⟨_, hc73.cell (j := 0) rfl, ?_⟩
    rw [hm73.get (P := Tryz.prog) um uk ui uz]
    -- what follows once the lengths agree
    have next : (∀ g ∈ L.take k, g.1 = L[k].1 → g.2.length = L[k].2.length) → ∃ t_v90 : Int, w73.cell? (Addr.add ⟨w35.heap.size, 0, none⟩ 0) = some (Value.int .i64 t_v90) ∧ ∃ t_v91 : Value, w73.cell? (Addr.add ⟨w35.heap.size, 0, none⟩ 1) = some t_v91 ∧ ∃ (a_v92 : Option Addr) (n_v93 c_v94 : Nat), t_v91 = Value.slice a_v92 n_v93 c_v94 ∧ ∃ w_v95 : World, (Instr.mapUpdate 113 (.map (some w14.heap.size)) (Value.int .i64 t_v90) (Value.int .i64 (n_v93 : Int))).run Tryz.prog w73 = .ok () w_v95 ∧ ∃ (a_v96 : Option Addr) (n_v97 c_v98 : Nat), fv = Value.slice a_v96 n_v97 c_v98 ∧ ∃ l_v99 h_v100 m_v101 : Nat, sbR none (some (Value.int .i64 (k : Int))) none n_v97 c_v98 l_v99 h_v100 m_v101 ∧ Calls Tryz.prog 80 #[(Value.slice (if m_v101 = l_v99 then a_v96 else a_v96.map (·.add (l_v99 * 2))) (h_v100 - l_v99) (m_v101 - l_v99)), (Value.func (Fn.func 81) #[] #[(Value.pointer (some ⟨w35.heap.size, 0, none⟩))])] w_v95 fun e_v103 w_v102 => ∃ t_v104 : Bool, e_v103 = .returned (Value.bool t_v104) ∧ condP t_v104 (∃ cs : Array Value, (Value.agg #[(.slice none 0 0), (.slice none 0 0)]) = .agg cs ∧ cs.size = 2 ∧ ∃ w2 : World, (storeCells ⟨w.heap.size, 0, none⟩ cs.toList).run Tryz.prog w_v102 = .ok () w2 ∧ ∃ ds : List Value, ds.length = 2 ∧ (∀ (j : Nat) (v : Value), ds[j]? = some v → w2.cell? (Addr.add ⟨w.heap.size, 0, none⟩ j) = some v) ∧
      ∃ x y, Ending.returned (.tuple #[.agg ds.toArray, .bool false]) = .returned (.tuple #[.agg #[x, y], .bool (okL L)]) ∧ oneV x ∧ oneV y ∧ (okL L = true → x = sv ∧ y = fv) ∧ Grow w w2) (inR ((k : Int) + 1) ∧ ((∃ (k' : Nat) (kv : List (Int × Value)), (k : Int) + 1 = k' ∧ k' ≤ L.length ∧ okL (L.take k') = true ∧ MapI w_v102 w14.heap.size kv ∧ MapOf kv (L.take k') ∧ Fr (fun i => i = w14.heap.size) w26 w_v102) ∧ L.length - Int.toNat ((k : Int) + 1) < L.length - Int.toNat (k : Int))) := fun hlen => by
      obtain ⟨w95, hr95, hm95, f95⟩ := hm73.set (P := Tryz.prog) um uk L[k].1 (.int .i64 (L[k].2.length : Int))
      have f2695 := f73.trans f95
      have g95 := gW f2695
      have hc95 : RecV w95 w35.heap.size [.int .i64 L[k].1, u] := hc73.fr f95 fun e => by omega
      have hu95 := hu.grow (g1.trans g95)
      obtain ⟨ua, un, uc, ue, ul, uh, umm, ub, hv'⟩ := SlX.upto (hl.gr (g1.trans g95)) (ik := .i64) (K := fun x => SlA w95 x (L.take k)) rfl (Nat.le_of_lt hkl) fun v' hv' => hv'
      refine ⟨_, hc73.cell (j := 0) rfl, _, hc73.cell (j := 1) rfl, hu.ln ⟨w95, hr95, ua, un, uc, ue, ul, uh, umm, ub, ?_⟩⟩
      refine (containsFact_c (p := fun g => decide (g.1 = L[k].1) && decide (g.2 = L[k].2)) hv' ⟨81, #[], _, rfl, rfl, fun g hg w' u' gg hgu => ?_⟩).mono ?_
      · rw [app1]
        exact read1_c hgu (gg.cell (hc95.cell (j := 0) rfl)) (gg.cell (hc95.cell (j := 1) rfl)) (hu95.grow gg)
      · rintro e w102 ⟨rfl, g102⟩
        refine ⟨_, rfl, condP_i (fun hb => ?_) fun hb => ?_⟩
        · obtain ⟨g, hg, h2⟩ := List.any_eq_true.1 hb
          rw [Bool.and_eq_true, decide_eq_true_eq, decide_eq_true_eq] at h2
          exact no (g95.trans g102) (okL_bad hkl (notArG hg h2.1 (.inr h2.2)))
        · refine ⟨by unfold inR; omega, ⟨k + 1, _, by omega, by omega, ?_, hm95.grow g102, ?_, f2695.trans (Fr.of_grow g102)⟩, by omega⟩
          · rw [List.take_succ_eq_append_getElem hkl, okL_app, hok, Bool.true_and, okAr, hF, Bool.true_and, List.all_eq_true]
            intro g hg
            by_cases e : g.1 = L[k].1
            · have h2 : ¬ g.2 = L[k].2 := fun h2 => by
                have : (L.take k).any (fun g => decide (g.1 = L[k].1) && decide (g.2 = L[k].2)) = true := List.any_eq_true.2 ⟨g, hg, by rw [e, h2]; simp⟩
                rw [hb] at this
                cases this
              simp [e, h2, hlen g hg e]
            · simp [e]
          · rw [List.take_succ_eq_append_getElem hkl]
            exact hkv.upd hlen
    cases hg : getM kv L[k].1 with
    | none =>
      refine ⟨0, false, w73, rfl, cF rfl (next fun g hgm e => ?_)⟩
      have := hkv.has g hgm
      rw [e, hg] at this
      cases this
    | some v =>
      obtain ⟨f, hfm, e⟩ := hkv.is L[k].1 (by rw [hg]; simp)
      have hv := hkv.has f hfm
      rw [e, hg] at hv
      obtain rfl := Option.some.inj hv
      refine ⟨_, true, w73, rfl, cT rfl ⟨_, hc73.cell (j := 1) rfl, hu.ln (condP_i (fun hne => bad (g141.trans g4173) (notArG hfm e (.inl ?_))) fun heq => next fun g hgm e2 => ?_)⟩⟩
      · simp at hne
        omega
      · have := hkv.has g hgm
        rw [e2, hg] at this
        have h9 := Option.some.inj this
        simp at heq h9
        omega
  · have hkl : k = L.length := by omega
    subst hkl
    rw [List.take_length] at hok
    refine ⟨hs.one, SlX.one hl, RecV.store (cs := [sv, fv]) (hR.grow g35) rfl (by
      intro u hu
      simp at hu
      rcases hu with rfl | rfl
      · exact hs.one.2
      · exact (SlX.one hl).2) fun w2 hf hr => ⟨[_, _], rfl, hr.all, _, _, (by rw [hok]), hs.one, SlX.one hl, fun _ => ⟨rfl, rfl⟩, (g1.trans g35).fr hf fun i hi e => by omega⟩⟩
end Go.Proofs.YtmjpnfapjcfejaaGreatDoor

/- Contracts: keys and blocks, by the program. No condition. -/
namespace Go.Proofs.YtmjpnfapjcfejaaGreatDoor
open Go Go.RowKit VC
set_option linter.unusedSimpArgs false
set_option linter.unusedVariables false

theorem okS_get {s : List Int} (hS : okS s = true) {r : Int} (h0 : 0 ≤ r) (h5 : r ≤ 5) : ∃ h : r.toNat < s.length, s[r.toNat] = (klS s r : Int) ∧ klS s r ≤ 3 := by
  obtain ⟨h6, hx⟩ := okS_out hS
  have h : r.toNat < s.length := by omega
  have e : s.getD r.toNat 0 = s[r.toNat] := by simp [List.getD, h]
  have := hx _ (List.getElem_mem h)
  refine ⟨h, ?_, ?_⟩
  · unfold klS; rw [e]; omega
  · unfold klS; rw [e]; omega
theorem take_min {α : Type} (xs : List α) (k : Nat) : xs.take (min k xs.length) = xs.take k := by
  rcases Nat.lt_or_ge k xs.length with h | h
  · rw [Nat.min_eq_left (by omega)]
  · rw [Nat.min_eq_right h, List.take_length, List.take_of_length_le h]
theorem key_c {w : World} {sv fv u : Value} {s : List Int} {r : Int} {xs : List Int} (hs : SlI w sv s) (hS : okS s = true) (h0 : 0 ≤ r) (h5 : r ≤ 5) (hu : SlI w u xs) :
    ∃ v', SlI w v' (xs.take (klS s r)) ∧ ∀ w2, Grow w w2 → Calls Tryz.prog 84 #[.agg #[sv, fv], .int .i64 r, u] w2 (Ret w2 v') := by
  obtain ⟨hi, e, h3⟩ := okS_get hS h0 h5
  obtain ⟨ua, un, uc, ue, ul, uh, um, ub, hv'⟩ := hu.upto (i := min (klS s r) xs.length) (k := .i64) (K := fun x => SlI w x (xs.take (klS s r))) rfl (Nat.min_le_right _ _) fun v' h => by rwa [take_min] at h
  obtain ⟨a0, c0, e0, -⟩ := SlC.ex hu
  have en : un = xs.length := by
    rw [e0] at ue
    injection ue with _ h _
    exact h.symm
  refine ⟨_, hv', fun w2 g => f84_calls _ _ _ ?_⟩
  refine ⟨_, rfl, fun w3 hw3 => ?_⟩
  have g3 := alloc_grow hw3
  refine ⟨_, boxc hw3 0 _ rfl, (hs.grow (g.trans g3)).rd (by omega) hi ⟨ua, un, uc, ue, ua, un, uc, ue, ul, uh, um, ?_, rfl, g3⟩⟩
  have ez : (if (un : Int) < s[r.toNat] then (un : Int) else s[r.toNat]) = ((min (klS s r) xs.length : Nat) : Int) := by
    rw [e, en]
    split <;> omega
  rw [ez]
  exact ub
theorem block1_c {w : World} {sv fv u u' : Value} {s : List Int} {r r' : Int} {xs ys : List Int} {p q : Addr} (hs : SlI w sv s) (hS : okS s = true) (h0 : 0 ≤ r) (h5 : r ≤ 5) (hu : SlI w u xs) (hu' : SlI w u' ys) (c0 : w.cell? (p.add 0) = some (.int .i64 r')) (c1 : w.cell? (p.add 1) = some u') (b0 : w.cell? (q.add 0) = some sv) (b1 : w.cell? (q.add 1) = some fv) :
    Calls Tryz.prog 83 #[.agg #[.int .i64 r, u], .pointer (some p), .pointer (some q)] w (Ret w (.bool (decide (kF (klS s) (r, xs) = kF (klS s) (r', ys))))) := by
  refine f83_calls _ _ _ ?_
  refine ⟨_, rfl, fun w1 hw1 => ?_⟩
  have g1 := alloc_grow hw1
  refine ⟨_, boxc hw1 0 _ rfl, _, g1.cell c0, condD (fun h => ?_) fun h => ?_⟩
  · obtain ⟨v1, hv1, k1⟩ := key_c (fv := fv) (hs.grow g1) hS h0 h5 (hu.grow g1)
    obtain ⟨v2, hv2, k2⟩ := key_c (fv := fv) (hs.grow g1) hS (h ▸ h0) (h ▸ h5) (hu'.grow g1)
    refine ⟨[sv, fv], rfl, two (g1.cell b0) (g1.cell b1), _, boxc hw1 0 _ rfl, _, boxc hw1 1 _ rfl, v1, fun w8 g8 => k1 w8 g8, [sv, fv], rfl, two (g1.cell b0) (g1.cell b1), _, g1.cell c0, _, g1.cell c1, v2, fun w15 g15 => k2 w15 g15, _, fun w19 g19 => equal_c (hv1.grow g19) (hv2.grow g19), fun w23 g23 => ⟨?_, g1.trans g23⟩⟩
    have : (kF (klS s) (r, xs) = kF (klS s) (r', ys)) ↔ xs.take (klS s r) = ys.take (klS s r') := by
      unfold kF
      rw [Prod.mk.injEq]
      exact ⟨fun h => h.2, fun h2 => ⟨h, h2⟩⟩
    rw [decide_eq_decide.2 this]
  · intro w24 g24
    refine ⟨?_, g1.trans g24⟩
    rw [decide_eq_false fun e => h (kF_rel e)]
theorem blk_idx {kl : Int → Nat} {L : List Atm} {i : Nat} (hi : i < L.length) : idxOf (fun g => decide (kF kl g = kF kl (fa L i))) L = (blkN kl L i : Int) := by
  obtain ⟨h1, h2, h3⟩ := blk_spec (kl := kl) hi
  have hl := blk_lt (kl := kl) hi
  refine idxOf_some hl ?_ fun j hj hlt => ?_
  · rw [← fa_get hl, decide_eq_true h2]
  · rw [← fa_get hj, decide_eq_false (h3 j hlt)]
theorem okF_rel {f : Atm} (h : okF f = true) : 0 ≤ f.1 ∧ f.1 ≤ 5 := by
  have := okF_iff.1 h
  exact ⟨this.1, this.2.1⟩
theorem okR_all {s : List Int} {L : List Atm} (h : okR s L = true) : ∀ f ∈ L, okF f = true := by
  simp only [okR_okL, okL, Bool.and_eq_true, List.all_eq_true] at h
  exact h.2.1
theorem block_c {w : World} {sv fv : Value} {s : List Int} {L : List Atm} (hs : SlI w sv s) (hl : SlA w fv L) (hR : okR s L = true) {i : Nat} (hi : i < L.length) :
    Calls Tryz.prog 53 #[.agg #[sv, fv], .int .i64 (i : Int)] w (Ret w (.int .i64 (blkN (klS s) L i : Int))) := by
  refine f53_calls _ _ ?_
  refine ⟨_, rfl, fun w1 hw1 => ?_⟩
  have g1 := alloc_grow hw1
  have hB := RecV.new hw1
  refine ⟨_, boxc hw1 1 _ rfl, locR hl g1 rfl hi rfl fun w9 u g9 s9 hu hc => ⟨_, g9.cell (boxc hw1 1 _ rfl), ?_⟩⟩
  have g09 := g1.trans g9
  refine (indexFact_c (p := fun g => decide (kF (klS s) g = kF (klS s) (fa L i))) (hl.gr g09) ⟨83, #[], _, rfl, rfl, fun g hg w' u' gg hgu => ?_⟩).mono ?_
  · have hr := okF_rel (okR_all hR g hg)
    have := block1_c (fv := fv) (hs.grow (g09.trans gg)) (okR_out hR).1 hr.1 hr.2 hgu (hu.grow (g09.trans gg)) (gg.cell (hc.cell (j := 0) rfl)) (gg.cell (hc.cell (j := 1) rfl)) ((hB.grow (g9.trans gg)).cell (j := 0) rfl) ((hB.grow (g9.trans gg)).cell (j := 1) rfl)
    rw [← fa_get hi] at this
    exact this
  · rintro e w12 ⟨rfl, g12⟩
    exact ⟨_, rfl, by rw [blk_idx hi], g09.trans g12⟩
def blksL (s : List Int) (L : List Atm) : List Int := (List.range L.length).map fun i => (blkN (klS s) L i : Int)
theorem blksL_len (s : List Int) (L : List Atm) : (blksL s L).length = L.length := by simp [blksL]
theorem blksL_get {s : List Int} {L : List Atm} {i : Nat} (hi : i < (blksL s L).length) : (blksL s L)[i] = (blkN (klS s) L i : Int) := by simp [blksL]
theorem blocks_c {w : World} {sv fv : Value} {s : List Int} {L : List Atm} (hs : SlI w sv s) (hl : SlA w fv L) :
    Calls Tryz.prog 22 #[sv, fv] w fun e w' => ∃ v, e = .returned (.tuple #[v, .int .i64 (if okR s L = true then 0 else 2)]) ∧ SlI w' v (if okR s L = true then blksL s L else []) ∧ Grow w w' := by
  refine f22_calls _ _ ?_
  refine (read_c hs hl).mono ?_
  rintro e w1 ⟨x, y, rfl, hx, hy, hxy, g1⟩
  refine ⟨_, _, rfl, fun w5 hw5 => RecV.init (cs := [x, y]) hw5 rfl (by simp [hx.2, hy.2]) fun w6 g6 s6 hB => ?_⟩
  have g06 := g1.trans g6
  refine condP_i (fun hn => ?_) fun hk => ?_
  · have hn : okR s L = false := by simpa using hn
    rw [hn]
    exact ⟨_, rfl, SlI.nil _, g06⟩
  have hk : okR s L = true := by simpa using hk
  obtain ⟨rfl, rfl⟩ := hxy hk
  rw [if_pos hk, if_pos hk]
  refine SlX.ln (hl.gr g06) ⟨fun out t w' => ∃ k : Nat, t = k ∧ k ≤ L.length ∧ OwnI w' w6.heap.size out ((blksL s L).take k) ∧ Grow w6 w', fun _ t _ => L.length - t.toNat, ⟨0, rfl, by omega, Own.nil _ _ _ _, Grow.refl _⟩, ?_⟩
  rintro - out t w16 ⟨k, rfl, hkl, hout, g16⟩
  have g016 := g06.trans g16
  refine condD (fun hlt => ?_) fun hge => ?_
  · have hi : k < L.length := by omega
    have hlen : ((blksL s L).take k).length = k := by rw [List.length_take, blksL_len]; omega
    have h12 := (okR_out hk).2.1
    refine ⟨[_, _], rfl, (hB.grow g16).all, (block_c (hs.grow g016) (hl.gr g016) hk hi).mono ?_⟩
    rintro e w18 ⟨rfl, g18⟩
    refine ⟨_, rfl, fun w21 hw21 => papp1 el_int hw21 (Own.grow hout g18) rfl (by have := g16.size; have := g18.size; omega) (by rw [hlen]; omega) (by omega) fun v' w' ho hf _ => ⟨by unfold inR; omega, ⟨k + 1, by omega, by omega, ?_, ?_⟩, by dsimp only; omega⟩⟩
    · rw [List.take_succ_eq_append_getElem (by rw [blksL_len]; exact hi), blksL_get]
      unfold OwnI
      rw [List.length_append, List.map_append]
      exact ho
    · exact ((g16.trans g18).trans (alloc_grow hw21)).fr hf fun b hb e => by have := (Own.lt hout e.symm).1; omega
  · have : k = L.length := by omega
    subst this
    rw [List.take_of_length_le (by rw [blksL_len]; exact Nat.le_refl _)] at hout
    exact ⟨_, rfl, Own.slI hout, g016⟩
end Go.Proofs.YtmjpnfapjcfejaaGreatDoor
