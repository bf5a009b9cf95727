/- Maps whose keys are ints, gone through by range. No condition. -/
import Derived.Test.YtmjpnfapjcfejaaVq
import Derived.Maps.RangeRun
namespace Go.Proofs.Ytmjpnfapjcfejaa.VC
open Go Go.RowKit
open Go.ChangeMaps (setBlock)
set_option linter.unusedSimpArgs false
set_option linter.unusedVariables false

/-- What a map holds, each entry with a stamp of its own. -/
structure MapSt (w : World) (b : Nat) (kv : List (Int × Value)) : Prop where
  ex : ∃ es clock, w.heap[b]? = some (.map es clock) ∧ es.toList.map (fun e => (e.key, e.val)) = kv.map (fun p => (Value.int .i64 p.1, p.2)) ∧ (∀ e ∈ es.toList, e.born < clock) ∧ (es.toList.map (·.born)).Nodup
section
variable {w w' : World} {b : Nat} {kv : List (Int × Value)}
theorem MapSt.toI (h : MapSt w b kv) : MapI w b kv := by
  obtain ⟨es, c, h1, h2, _⟩ := h.ex
  exact ⟨es, c, h1, h2⟩
theorem MapSt.lt (h : MapSt w b kv) : b < w.heap.size := h.toI.lt
theorem MapSt.fr {S : Nat → Prop} (h : MapSt w b kv) (hf : Fr S w w') (hs : ¬ S b) : MapSt w' b kv := by
  have hlt := h.lt
  obtain ⟨es, c, h1, h2⟩ := h.ex
  exact ⟨es, c, (hf.block b hlt hs).trans h1, h2⟩
theorem MapSt.grow (h : MapSt w b kv) (hf : Grow w w') : MapSt w' b kv := h.fr (Fr.of_grow (S := fun _ => False) hf) id
theorem MapSt.make {P : Program} (t : TypeId) (w : World) {K : Value → World → Prop} (hk : ∀ w', w' = w.alloc (.map #[] 0) → MapSt w' w.heap.size [] → Grow w w' → w'.heap.size = w.heap.size + 1 → K (.map (some w.heap.size)) w') :
    ∃ v : Value, ∃ w' : World, (Instr.makeMap t none).run P w = .ok v w' ∧ K v w' := by
  refine ⟨_, _, run_makeMap t w, hk _ rfl ⟨#[], 0, heap_alloc_new w _, rfl, fun e he => by simp at he, by simp⟩ ((Grow.refl w).alloc _) (by simp)⟩
theorem map_modify_born {f : MapEntry → MapEntry} (hf : ∀ e, (f e).born = e.born) : ∀ (l : List MapEntry) (j : Nat), (l.modify j f).map (·.born) = l.map (·.born)
  | [], j => by simp
  | e :: r, 0 => by simp [hf]
  | e :: r, j + 1 => by simp [map_modify_born hf r j]
theorem MapSt.set {P : Program} {t kt et : TypeId} (ht : P.underlying t = some (.map kt et)) (hk : P.underlying kt = some (.int .i64)) (h : MapSt w b kv) (k : Int) (v : Value) :
    ∃ w', (Instr.mapUpdate t (.map (some b)) (.int .i64 k) v).run P w = .ok () w' ∧ MapSt w' b (updM kv k v) ∧ Fr (fun q => q = b) w w' := by
  have hlt := h.lt
  obtain ⟨es, c, h1, h2, h3, h4⟩ := h.ex
  have hf : Instr.findNow (.int .i64) (.int .i64 k) es.toList 0 = some (idxK kv k 0) := findNow_kv _ _ _ h2
  have hc : ∀ e, (Instr.checkKey e 10000 kt (.int .i64 k)).run P w = .ok () w := fun e => MapKept.run_checkKey (k := .int .i64 k) hk (by simp [MapKept.IsKey]) e 9999
  have fr : ∀ o, Fr (fun q => q = b) w { w with heap := w.heap.setIfInBounds b o } := fun o => ⟨rfl, rfl, rfl, by simp, fun q _ hq => Array.getElem?_setIfInBounds_ne fun e => hq e.symm⟩
  have at_ : ∀ o, (w.heap.setIfInBounds b o)[b]? = some o := fun o => by simp [Array.getElem?_setIfInBounds, hlt]
  cases hx : idxK kv k 0 with
  | none =>
    rw [hx] at hf
    refine ⟨_, ?_, ⟨_, _, at_ (.map (es.push { key := .int .i64 k, val := v, born := c }) (c + 1)), updM_push h2 hx, ?_, ?_⟩, fr _⟩
    · simp [Instr.mapUpdate, underlying_run ht, MapKept.run_getObj_map h1, hc, MapKept.run_findKey hk hf, MapKept.run_setObj_map _ h1]
    · intro e he
      simp only [Array.toList_push, List.mem_append, List.mem_singleton] at he
      rcases he with he | rfl
      · have := h3 e he; omega
      · show c < c + 1
        omega
    · rw [Array.toList_push, List.map_append]
      refine List.nodup_append.2 ⟨h4, by simp, fun a ha b hb e => ?_⟩
      obtain ⟨x, hx, rfl⟩ := List.mem_map.1 ha
      have := h3 x hx
      simp at hb
      omega
  | some p =>
    obtain ⟨j, u⟩ := p
    rw [hx] at hf
    have hj : ∃ e, es[j]? = some e ∧ e.key = .int .i64 k := by
      have h4 := idxK_at kv k j u hx
      have h5 : (es.toList.map (fun e => (e.key, e.val)))[j]? = some (.int .i64 k, u) := by rw [h2, List.getElem?_map, h4]; rfl
      rw [List.getElem?_map, Option.map_eq_some_iff] at h5
      obtain ⟨e, he, h6⟩ := h5
      simp only [Prod.mk.injEq] at h6
      exact ⟨e, by simpa using he, h6.1⟩
    obtain ⟨e, he, hke⟩ := hj
    have hborn : ((es.modify j fun e => { e with key := .int .i64 k, val := v }).toList.map (·.born)) = es.toList.map (·.born) := by
      rw [Array.toList_modify]
      exact map_modify_born (f := fun e => { e with key := .int .i64 k, val := v }) (fun _ => rfl) _ _
    refine ⟨_, ?_, ⟨_, _, at_ (.map (es.modify j fun e => { e with key := .int .i64 k, val := v }) c), ?_, fun x hx' => ?_, by rw [hborn]; exact h4⟩, fr _⟩
    · have hs : Instr.sameBits 10000 (.int .i64 k) (.int .i64 k) = true := by simp [Instr.sameBits]
      simp [Instr.mapUpdate, underlying_run ht, MapKept.run_getObj_map h1, hc, MapKept.run_findKey hk hf, MapKept.run_setObj_map _ h1, Instr.keyThatStays, he, hke, hs]
    · rw [Array.toList_modify]
      exact updM_modify es.toList kv j h2 hx
    · have : x.born ∈ es.toList.map (·.born) := by rw [← hborn]; exact List.mem_map.2 ⟨x, hx', rfl⟩
      obtain ⟨y, hy, e⟩ := List.mem_map.1 this
      rw [← e]
      exact h3 y hy
/-! ## range -/
def kvE (e : MapEntry) : Int × Value := (match e.key with | .int _ k => k | _ => 0, e.val)
/-- A range under way: what is still to come, in any order. -/
structure ItS (w : World) (b r : Nat) (kv left : List (Int × Value)) : Prop where
  ex : ∃ es clock since seen c0, w.heap[b]? = some (.map es clock) ∧ es.toList.map (fun e => (e.key, e.val)) = kv.map (fun p => (Value.int .i64 p.1, p.2)) ∧ (∀ e ∈ es.toList, e.born < since) ∧ (es.toList.map (·.born)).Nodup ∧ w.heap[r]? = some (.mapIter (some b) since seen c0) ∧ since ≤ c0 ∧ since ≤ clock ∧ left = ((es.toList.filter fun e => !seen.contains e.born).map kvE)
theorem kv_of {es : List MapEntry} (h : es.map (fun e => (e.key, e.val)) = kv.map (fun p => (Value.int .i64 p.1, p.2))) : es.map kvE = kv := by
  have : (es.map (fun e => (e.key, e.val))).map (fun p => ((match p.1 with | .int _ k => k | _ => 0 : Int), p.2)) = kv := by
    rw [h, List.map_map]
    conv => rhs; rw [← List.map_id kv]
    rfl
  rw [List.map_map] at this
  exact this
theorem key_of {es : List MapEntry} (h : es.map (fun e => (e.key, e.val)) = kv.map (fun p => (Value.int .i64 p.1, p.2))) : ∀ e ∈ es, e.key = .int .i64 (kvE e).1 := by
  intro e he
  have : (e.key, e.val) ∈ kv.map (fun p => (Value.int .i64 p.1, p.2)) := h ▸ List.mem_map.2 ⟨e, he, rfl⟩
  obtain ⟨p, hp, e2⟩ := List.mem_map.1 this
  have e3 : e.key = Value.int .i64 p.1 := (congrArg Prod.fst e2).symm
  unfold kvE
  rw [e3]
theorem ItS.fr {r : Nat} {left : List (Int × Value)} {S : Nat → Prop} (h : ItS w b r kv left) (hf : Fr S w w') (hb : ¬ S b) (hr : ¬ S r) : ItS w' b r kv left := by
  obtain ⟨es, clock, since, seen, c0, h1, h2, h3, h4, h5, h6⟩ := h.ex
  exact ⟨es, clock, since, seen, c0, (hf.block b (Array.getElem?_eq_some_iff.1 h1).1 hb).trans h1, h2, h3, h4, (hf.block r (Array.getElem?_eq_some_iff.1 h5).1 hr).trans h5, h6⟩
theorem ItS.grow {r : Nat} {left : List (Int × Value)} (h : ItS w b r kv left) (hf : Grow w w') : ItS w' b r kv left := h.fr (Fr.of_grow (S := fun _ => False) hf) id id
theorem MapSt.range {P : Program} {t kt et : TypeId} (ht : P.underlying t = some (.map kt et)) (h : MapSt w b kv) {K : Value → World → Prop} (hk : ∀ w', ItS w' b w.heap.size kv kv → Grow w w' → w'.heap.size = w.heap.size + 1 → K (.pointer (some ⟨w.heap.size, 0, none⟩)) w') :
    ∃ v : Value, ∃ w' : World, (Instr.range t (.map (some b))).run P w = .ok v w' ∧ K v w' := by
  obtain ⟨es, c, h1, h2, h3, h4⟩ := h.ex
  have hg : Grow w (w.alloc (.mapIter (some b) c #[] c)) := (Grow.refl w).alloc _
  refine ⟨_, _, run_range_map w t kt et b es c ht h1, hk _ ⟨es, c, c, #[], c, ?_, h2, h3, h4, heap_alloc_new w _, Nat.le_refl _, Nat.le_refl _, ?_⟩ hg (by simp)⟩
  · exact (hg.block b (Array.getElem?_eq_some_iff.1 h1).1).trans h1
  · have e : es.toList.filter (fun e => !(#[] : Array Nat).contains e.born) = es.toList := List.filter_eq_self.2 fun x _ => by simp
    rw [e, kv_of h2]
theorem perm_out {α : Type} {β : Type} [DecidableEq β] (f : α → β) : ∀ {l : List α} {e : α}, (l.map f).Nodup → e ∈ l → l.Perm (e :: l.filter fun x => decide (f x ≠ f e))
  | a :: r, e, hn, he => by
    rw [List.map_cons, List.nodup_cons] at hn
    rcases List.mem_cons.1 he with rfl | he
    · have : (e :: r).filter (fun x => decide (f x ≠ f e)) = r := by
        rw [List.filter_cons, if_neg (by simp)]
        refine List.filter_eq_self.2 fun x hx => decide_eq_true fun h => hn.1 ?_
        rw [← h]
        exact List.mem_map.2 ⟨x, hx, rfl⟩
      rw [this]
    · have hne : f a ≠ f e := fun h => hn.1 (h ▸ List.mem_map.2 ⟨e, he, rfl⟩)
      rw [List.filter_cons, if_pos (by simpa using hne)]
      exact ((perm_out f hn.2 he).cons a).trans (List.Perm.swap _ _ _)
/-- The step: nothing is left, or one of what is left comes out. -/
theorem ItS.next {P : Program} {r : Nat} {left : List (Int × Value)} (h : ItS w b r kv left) (hrb : r ≠ b) (ty : TypeId) :
    (left = [] ∧ (Instr.next (.pointer (some ⟨r, 0, none⟩)) false ty).run P w = .ok (.tuple #[.bool false]) w) ∨
    ∃ p left' w', left.Perm (p :: left') ∧ (Instr.next (.pointer (some ⟨r, 0, none⟩)) false ty).run P w = .ok (.tuple #[.bool true, .int .i64 p.1, p.2]) w' ∧ ItS w' b r kv left' ∧ Fr (fun q => q = r) w w' ∧ (Instr.entry (.pointer (some ⟨r, 0, none⟩))).run P w' = .ok (.tuple #[.int .i64 p.1, p.2]) w' := by
  obtain ⟨es, clock, since, seen, c0, h1, h2, h3, h4, h5, h6, h7, rfl⟩ := h.ex
  have hl : (leftOf es seen).toList = es.toList.filter fun e => !seen.contains e.born := by
    unfold leftOf
    simp
  rcases run_next_at (P := P) w ty r b since c0 seen es clock h5 h1 h3 h6 with ⟨h0, hrun⟩ | ⟨e, he, w1, hw1, hrun⟩
  · refine .inl ⟨?_, hrun⟩
    rw [← hl]
    have : (leftOf es seen).toList = [] := by
      apply List.eq_nil_of_length_eq_zero
      simpa using h0
    rw [this]
    rfl
  · refine .inr ⟨kvE e, (es.toList.filter fun x => !(seen.push e.born).contains x.born).map kvE, setBlock w1 r (.mapIter (some b) since (seen.push e.born) clock), ?_, ?_, ?_, ?_, ?_⟩
    · rw [hl] at he
      have hperm := perm_out (·.born) (l := es.toList.filter fun e => !seen.contains e.born) (e := e) (h4.sublist (List.Sublist.map _ (List.filter_sublist ..))) he
      have e2 : (es.toList.filter fun e => !seen.contains e.born).filter (fun x => decide (x.born ≠ e.born)) = es.toList.filter fun x => !(seen.push e.born).contains x.born := by
        rw [List.filter_filter]
        refine List.filter_congr fun x _ => ?_
        rw [Bool.eq_iff_iff]
        simp only [Bool.and_eq_true, decide_eq_true_eq, Bool.not_eq_true', ← Bool.not_eq_true, Array.contains_iff_mem, Array.mem_push, not_or]
        exact ⟨fun h => ⟨h.2, h.1⟩, fun h => ⟨h.2, h.1⟩⟩
      rw [e2] at hperm
      exact hperm.map kvE
    · have hm : e ∈ es.toList := by
        rw [hl] at he
        exact (List.mem_filter.1 he).1
      rw [hrun, key_of h2 e hm]
      rfl
    · have hb1 : (setBlock w1 r (.mapIter (some b) since (seen.push e.born) clock)).heap[b]? = some (.map es clock) := by
        have : w1.heap = w.heap := by rcases hw1 with rfl | rfl <;> rfl
        simp [setBlock, this, Array.getElem?_setIfInBounds_ne hrb, h1]
      have hr1 : (setBlock w1 r (.mapIter (some b) since (seen.push e.born) clock)).heap[r]? = some (.mapIter (some b) since (seen.push e.born) clock) := by
        have : w1.heap = w.heap := by rcases hw1 with rfl | rfl <;> rfl
        simp [setBlock, this, Array.getElem?_setIfInBounds, (Array.getElem?_eq_some_iff.1 h5).1]
      exact ⟨es, clock, since, seen.push e.born, clock, hb1, h2, h3, h4, hr1, h7, h7, rfl⟩
    · rcases hw1 with rfl | rfl
      · exact ⟨rfl, rfl, rfl, by simp [setBlock], fun q _ hq => Array.getElem?_setIfInBounds_ne (Ne.symm hq)⟩
      · exact ⟨rfl, rfl, rfl, by simp [setBlock], fun q _ hq => Array.getElem?_setIfInBounds_ne (Ne.symm hq)⟩
    · have hm : e ∈ es.toList := by
        rw [hl] at he
        exact (List.mem_filter.1 he).1
      have hb1 : (setBlock w1 r (.mapIter (some b) since (seen.push e.born) clock)).heap[b]? = some (.map es clock) := by
        have : w1.heap = w.heap := by rcases hw1 with rfl | rfl <;> rfl
        simp [setBlock, this, Array.getElem?_setIfInBounds_ne hrb, h1]
      have hr1 : (setBlock w1 r (.mapIter (some b) since (seen.push e.born) clock)).heap[r]? = some (.mapIter (some b) since (seen.push e.born) clock) := by
        have : w1.heap = w.heap := by rcases hw1 with rfl | rfl <;> rfl
        simp [setBlock, this, Array.getElem?_setIfInBounds, (Array.getElem?_eq_some_iff.1 h5).1]
      have := run_entry_at (P := P) (setBlock w1 r (.mapIter (some b) since (seen.push e.born) clock)) r b since seen es clock e hr1 hb1 hm h4
      rw [this, key_of h2 e hm]
      rfl
end
end Go.Proofs.Ytmjpnfapjcfejaa.VC
