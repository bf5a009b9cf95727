/- Maps whose keys are facts of one number (a struct of three ints): sets of relations. No condition. -/
import Derived.Test.YtleiddajojgmmaaTc
import Derived.DeepKeys4
import Derived.Test.YtleiddajojgmmaaProg
namespace Go.Proofs.Ytleiddajojgmmaa
open Go Go.RowKit VC
open Go.ChangeMaps (setBlock)
set_option linter.unusedSimpArgs false
set_option linter.unusedVariables false

/-- The fact of the relation r and the number c, as a key. -/
def kS (c r : Nat) : Value := .agg #[.int .i64 (r : Int), .int .i64 (c : Int), .int .i64 0]
def decS : Value → Nat
  | .agg a => match a.toList with | .int _ r :: _ => r.toNat | _ => 0
  | _ => 0
theorem dec_kS (c r : Nat) : decS (kS c r) = r := rfl
theorem kS_inj {c r r' : Nat} (h : kS c r = kS c r') : r = r' := by
  have := congrArg decS h
  exact this
theorem fact_law : WideMaps.KeyLaw Try.prog 119 := deep_law_laid (m := 3) (by kernel_rfl) (by omega) (by decide +kernel) (by kernel_rfl) (by kernel_rfl)
theorem key_ok {c r : Nat} (hc : c < 8) (hr : r < 8) : ∃ l, keyOf Try.prog 119 (kS c r) = some l := by
  have : ∀ c r : Fin 8, (keyOf Try.prog 119 (kS c.1 r.1)).isSome = true := by decide +kernel
  exact Option.isSome_iff_exists.1 (this ⟨c, hc⟩ ⟨r, hr⟩)
theorem map_und : Try.prog.underlying 85 = some (.map 119 4) ∧ Try.prog.info? 4 = some Try.t4 ∧ Try.t4.zero = some (.bool false) := ⟨by kernel_rfl, by kernel_rfl, by kernel_rfl⟩
/-- A map that holds the relations S, each with true. -/
structure MapF (c : Nat) (w : World) (b : Nat) (S : List Nat) : Prop where
  ex : ∃ es clock, w.heap[b]? = some (.map es clock) ∧ es.toList.map (fun e => (e.key, e.val)) = S.map (fun r => (kS c r, Value.bool true)) ∧ (∀ e ∈ es.toList, e.born < clock) ∧ (es.toList.map (·.born)).Nodup
  c8 : c < 8
  r8 : ∀ r ∈ S, r < 8
section
variable {w w' : World} {b c : Nat} {S : List Nat}
theorem MapF.lt (h : MapF c w b S) : b < w.heap.size := by
  obtain ⟨es, k, h1, _⟩ := h.ex
  exact (Array.getElem?_eq_some_iff.1 h1).1
theorem MapF.fr {T : Nat → Prop} (h : MapF c w b S) (hf : Fr T w w') (hs : ¬ T b) : MapF c w' b S := by
  have hlt := h.lt
  obtain ⟨es, k, h1, h2⟩ := h.ex
  exact ⟨⟨es, k, (hf.block b hlt hs).trans h1, h2⟩, h.c8, h.r8⟩
theorem MapF.grow (h : MapF c w b S) (hf : Grow w w') : MapF c w' b S := h.fr (Fr.of_grow (S := fun _ => False) hf) id
theorem MapF.make {P : Program} (hc : c < 8) (t : TypeId) (w : World) {K : Value → World → Prop} (hk : ∀ w', w' = w.alloc (.map #[] 0) → MapF c w' w.heap.size [] → Grow w w' → w'.heap.size = w.heap.size + 1 → K (.map (some w.heap.size)) w') :
    ∃ v : Value, ∃ w' : World, (Instr.makeMap t none).run P w = .ok v w' ∧ K v w' := by
  refine ⟨_, _, run_makeMap t w, hk _ rfl ⟨⟨#[], 0, heap_alloc_new w _, rfl, fun e he => by simp at he, by simp⟩, hc, fun r hr => by cases hr⟩ ((Grow.refl w).alloc _) (by simp)⟩
theorem keys_ok {es : List MapEntry} (hc : c < 8) (hr : ∀ r ∈ S, r < 8) (h : es.map (fun e => (e.key, e.val)) = S.map (fun r => (kS c r, Value.bool true))) : ∀ e ∈ es, ∃ l, keyOf Try.prog 119 e.key = some l := fun e he => by
  have : (e.key, e.val) ∈ S.map (fun r => (kS c r, Value.bool true)) := h ▸ List.mem_map.2 ⟨e, he, rfl⟩
  obtain ⟨r, hr2, e2⟩ := List.mem_map.1 this
  rw [← (Prod.mk.inj e2).1]
  exact key_ok hc (hr r hr2)
theorem mem_keys {es : List MapEntry} (h : es.map (fun e => (e.key, e.val)) = S.map (fun r => (kS c r, Value.bool true))) {r : Nat} : r ∈ S ↔ ∃ e ∈ es, e.key = kS c r := by
  constructor
  · intro hr
    have : (kS c r, Value.bool true) ∈ es.map (fun e => (e.key, e.val)) := h ▸ List.mem_map.2 ⟨r, hr, rfl⟩
    obtain ⟨e, he, e2⟩ := List.mem_map.1 this
    exact ⟨e, he, (Prod.mk.inj e2).1⟩
  · rintro ⟨e, he, hk⟩
    have : (e.key, e.val) ∈ S.map (fun r => (kS c r, Value.bool true)) := h ▸ List.mem_map.2 ⟨e, he, rfl⟩
    obtain ⟨r', hr', e2⟩ := List.mem_map.1 this
    have := kS_inj ((Prod.mk.inj e2).1.trans hk)
    rwa [← this]
theorem MapF.look (h : MapF c w b S) {k : Nat} (hk : k < 8) : (Instr.lookup 85 (.map (some b)) (kS c k) false).run Try.prog w = .ok (.bool (decide (k ∈ S))) w := by
  obtain ⟨es, clock, h1, h2, -, -⟩ := h.ex
  obtain ⟨l, hl⟩ := key_ok h.c8 hk
  have hc := fun em => fact_law.check w em hl
  have hzr : (zeroValue 4).run Try.prog w = .ok (.bool false) w := by simp [zeroValue, typeInfo, map_und.2.1, map_und.2.2]
  have hm := mem_keys h2 (r := k)
  rcases fact_law.find w hl es.toList (keys_ok h.c8 h.r8 h2) with ⟨hf, hno⟩ | ⟨j, e, hf, he, hek⟩
  · have : ¬ k ∈ S := fun hkS => by
      obtain ⟨e, he, hk2⟩ := hm.1 hkS
      exact hno e he hk2
    rw [decide_eq_false this]
    simp [Instr.lookup, underlying_run map_und.1, MapKept.run_getObj_map h1, hc, hf, hzr]
  · have hmem : e ∈ es.toList := List.mem_of_getElem? he
    have : k ∈ S := hm.2 ⟨e, hmem, hek⟩
    have hv : e.val = .bool true := by
      have : (e.key, e.val) ∈ S.map (fun r => (kS c r, Value.bool true)) := h2 ▸ List.mem_map.2 ⟨e, hmem, rfl⟩
      obtain ⟨r', hr', e2⟩ := List.mem_map.1 this
      exact (Prod.mk.inj e2).2.symm
    rw [decide_eq_true this]
    simp [Instr.lookup, underlying_run map_und.1, MapKept.run_getObj_map h1, hc, hf, hv]
theorem modify_same {es : List MapEntry} {j : Nat} {e : MapEntry} {k v : Value} (he : es[j]? = some e) (hk : e.key = k) (hv : e.val = v) : (es.modify j fun e => { e with key := k, val := v }) = es := by
  refine List.ext_getElem? fun i => ?_
  rw [List.getElem?_modify]
  by_cases hij : j = i
  · subst hij
    rw [he]
    simp [← hk, ← hv]
  · cases es[i]? <;> simp [hij]
theorem MapF.put (h : MapF c w b S) {k : Nat} (hk : k < 8) : ∃ w', (Instr.mapUpdate 85 (.map (some b)) (kS c k) (.bool true)).run Try.prog w = .ok () w' ∧ MapF c w' b (if k ∈ S then S else S ++ [k]) ∧ Fr (fun q => q = b) w w' := by
  have hlt := h.lt
  obtain ⟨es, clock, h1, h2, h3, h4⟩ := h.ex
  obtain ⟨l, hl⟩ := key_ok h.c8 hk
  have hc := fun em => fact_law.check w em hl
  have fr : ∀ o, Fr (fun q => q = b) w { w with heap := w.heap.setIfInBounds b o } := fun o => ⟨rfl, rfl, rfl, by simp, fun q _ hq => Array.getElem?_setIfInBounds_ne fun e => hq e.symm⟩
  have at_ : ∀ o, (w.heap.setIfInBounds b o)[b]? = some o := fun o => by simp [Array.getElem?_setIfInBounds, hlt]
  have hm := mem_keys h2 (r := k)
  rcases fact_law.find w hl es.toList (keys_ok h.c8 h.r8 h2) with ⟨hf, hno⟩ | ⟨j, e, hf, he, hek⟩
  · have hnS : ¬ k ∈ S := fun hkS => by
      obtain ⟨e, he, hk2⟩ := hm.1 hkS
      exact hno e he hk2
    rw [if_neg hnS]
    refine ⟨_, ?_, ⟨⟨_, _, at_ (.map (es.push { key := kS c k, val := .bool true, born := clock }) (clock + 1)), ?_, ?_, ?_⟩, h.c8, ?_⟩, fr _⟩
    · simp [Instr.mapUpdate, underlying_run map_und.1, MapKept.run_getObj_map h1, hc, hf, MapKept.run_setObj_map _ h1]
    · rw [Array.toList_push, List.map_append, List.map_append, h2]
      rfl
    · intro e he
      simp only [Array.toList_push, List.mem_append, List.mem_singleton] at he
      rcases he with he | rfl
      · have := h3 e he; omega
      · show clock < clock + 1
        omega
    · rw [Array.toList_push, List.map_append]
      refine List.nodup_append.2 ⟨h4, by simp, fun a ha b hb e => ?_⟩
      obtain ⟨x, hx, rfl⟩ := List.mem_map.1 ha
      have := h3 x hx
      simp at hb
      omega
    · intro r hr
      rcases List.mem_append.1 hr with hr | hr
      · exact h.r8 r hr
      · rw [List.mem_singleton.1 hr]; exact hk
  · have hmem : e ∈ es.toList := List.mem_of_getElem? he
    have hkS : k ∈ S := hm.2 ⟨e, hmem, hek⟩
    have hv : e.val = .bool true := by
      have : (e.key, e.val) ∈ S.map (fun r => (kS c r, Value.bool true)) := h2 ▸ List.mem_map.2 ⟨e, hmem, rfl⟩
      obtain ⟨r', hr', e2⟩ := List.mem_map.1 this
      exact (Prod.mk.inj e2).2.symm
    rw [if_pos hkS]
    have he' : es[j]? = some e := by simpa using he
    have hms : (es.modify j fun e => { e with key := kS c k, val := .bool true }).toList = es.toList := by
      rw [Array.toList_modify]
      exact modify_same he hek hv
    refine ⟨_, ?_, ⟨⟨_, _, at_ (.map (es.modify j fun e => { e with key := kS c k, val := .bool true }) clock), by rw [hms]; exact h2, by rw [hms]; exact h3, by rw [hms]; exact h4⟩, h.c8, h.r8⟩, fr _⟩
    have hst := fact_law.stays w hl
    simp [Instr.mapUpdate, underlying_run map_und.1, MapKept.run_getObj_map h1, hc, hf, MapKept.run_setObj_map _ h1, he', hek, hst]
/-! ## range -/
/-- A range under way: what is still to come, in any order. -/
structure ItF (c : Nat) (w : World) (b r : Nat) (S left : List Nat) : Prop where
  ex : ∃ es clock since seen c0, w.heap[b]? = some (.map es clock) ∧ es.toList.map (fun e => (e.key, e.val)) = S.map (fun r => (kS c r, Value.bool true)) ∧ (∀ e ∈ es.toList, e.born < since) ∧ (es.toList.map (·.born)).Nodup ∧ w.heap[r]? = some (.mapIter (some b) since seen c0) ∧ since ≤ c0 ∧ since ≤ clock ∧ left = ((es.toList.filter fun e => !seen.contains e.born).map fun e => decS e.key)
theorem decs_of {es : List MapEntry} (h : es.map (fun e => (e.key, e.val)) = S.map (fun r => (kS c r, Value.bool true))) : es.map (fun e => decS e.key) = S := by
  have : (es.map (fun e => (e.key, e.val))).map (fun p => decS p.1) = S := by
    rw [h, List.map_map]
    conv => rhs; rw [← List.map_id S]
    exact List.map_congr_left fun r _ => dec_kS c r
  rw [List.map_map] at this
  exact this
theorem entry_of {es : List MapEntry} (h : es.map (fun e => (e.key, e.val)) = S.map (fun r => (kS c r, Value.bool true))) : ∀ e ∈ es, e.key = kS c (decS e.key) ∧ e.val = .bool true := by
  intro e he
  have : (e.key, e.val) ∈ S.map (fun r => (kS c r, Value.bool true)) := h ▸ List.mem_map.2 ⟨e, he, rfl⟩
  obtain ⟨r, hr, e2⟩ := List.mem_map.1 this
  have e3 := (Prod.mk.inj e2).1
  exact ⟨by rw [← e3, dec_kS], (Prod.mk.inj e2).2.symm⟩
theorem ItF.fr {r : Nat} {left : List Nat} {T : Nat → Prop} (h : ItF c w b r S left) (hf : Fr T w w') (hb : ¬ T b) (hr : ¬ T r) : ItF c w' b r S left := by
  obtain ⟨es, clock, since, seen, c0, h1, h2, h3, h4, h5, h6⟩ := h.ex
  exact ⟨es, clock, since, seen, c0, (hf.block b (Array.getElem?_eq_some_iff.1 h1).1 hb).trans h1, h2, h3, h4, (hf.block r (Array.getElem?_eq_some_iff.1 h5).1 hr).trans h5, h6⟩
theorem ItF.grow {r : Nat} {left : List Nat} (h : ItF c w b r S left) (hf : Grow w w') : ItF c w' b r S left := h.fr (Fr.of_grow (S := fun _ => False) hf) id id
theorem MapF.range {P : Program} {t kt et : TypeId} (ht : P.underlying t = some (.map kt et)) (h : MapF c w b S) {K : Value → World → Prop} (hk : ∀ w', ItF c w' b w.heap.size S S → Grow w w' → w'.heap.size = w.heap.size + 1 → K (.pointer (some ⟨w.heap.size, 0, none⟩)) w') :
    ∃ v : Value, ∃ w' : World, (Instr.range t (.map (some b))).run P w = .ok v w' ∧ K v w' := by
  obtain ⟨es, k, h1, h2, h3, h4⟩ := h.ex
  have hg : Grow w (w.alloc (.mapIter (some b) k #[] k)) := (Grow.refl w).alloc _
  refine ⟨_, _, run_range_map w t kt et b es k ht h1, hk _ ⟨es, k, k, #[], k, ?_, h2, h3, h4, heap_alloc_new w _, Nat.le_refl _, Nat.le_refl _, ?_⟩ hg (by simp)⟩
  · exact (hg.block b (Array.getElem?_eq_some_iff.1 h1).1).trans h1
  · have e : es.toList.filter (fun e => !(#[] : Array Nat).contains e.born) = es.toList := List.filter_eq_self.2 fun x _ => by simp
    rw [e, decs_of h2]
/-- The step: nothing is left, or one of what is left comes out. -/
theorem ItF.next {P : Program} {r : Nat} {left : List Nat} (h : ItF c w b r S left) (hrb : r ≠ b) (ty : TypeId) :
    (left = [] ∧ (Instr.next (.pointer (some ⟨r, 0, none⟩)) false ty).run P w = .ok (.tuple #[.bool false]) w) ∨
    ∃ p left' w', left.Perm (p :: left') ∧ (Instr.next (.pointer (some ⟨r, 0, none⟩)) false ty).run P w = .ok (.tuple #[.bool true, kS c p, .bool true]) w' ∧ ItF c w' b r S left' ∧ Fr (fun q => q = r) w w' ∧ (Instr.entry (.pointer (some ⟨r, 0, none⟩))).run P w' = .ok (.tuple #[kS c p, .bool true]) w' := by
  obtain ⟨es, clock, since, seen, c0, h1, h2, h3, h4, h5, h6, h7, rfl⟩ := h.ex
  have hl : (leftOf es seen).toList = es.toList.filter fun e => !seen.contains e.born := by
    unfold leftOf
    simp
  rcases run_next_at (P := P) w ty r b since c0 seen es clock h5 h1 h3 h6 with ⟨h0, hrun⟩ | ⟨e, he, w1, hw1, hrun⟩
  · refine .inl ⟨?_, hrun⟩
    rw [← hl]
    have : (leftOf es seen).toList = [] := by
      apply List.eq_nil_of_length_eq_zero
      simpa using h0
    rw [this]
    rfl
  · have hm : e ∈ es.toList := by
      rw [hl] at he
      exact (List.mem_filter.1 he).1
    obtain ⟨ek, ev⟩ := entry_of h2 e hm
    refine .inr ⟨decS e.key, (es.toList.filter fun x => !(seen.push e.born).contains x.born).map (fun e => decS e.key), setBlock w1 r (.mapIter (some b) since (seen.push e.born) clock), ?_, ?_, ?_, ?_, ?_⟩
    · rw [hl] at he
      have hperm := perm_out (·.born) (l := es.toList.filter fun e => !seen.contains e.born) (e := e) (h4.sublist (List.Sublist.map _ (List.filter_sublist ..))) he
      have e2 : (es.toList.filter fun e => !seen.contains e.born).filter (fun x => decide (x.born ≠ e.born)) = es.toList.filter fun x => !(seen.push e.born).contains x.born := by
        rw [List.filter_filter]
        refine List.filter_congr fun x _ => ?_
        rw [Bool.eq_iff_iff]
        simp only [Bool.and_eq_true, decide_eq_true_eq, Bool.not_eq_true', ← Bool.not_eq_true, Array.contains_iff_mem, Array.mem_push, not_or]
        exact ⟨fun h => ⟨h.2, h.1⟩, fun h => ⟨h.2, h.1⟩⟩
      rw [e2] at hperm
      exact hperm.map (fun e => decS e.key)
    · rw [hrun, ← ek, ev]
    · have hb1 : (setBlock w1 r (.mapIter (some b) since (seen.push e.born) clock)).heap[b]? = some (.map es clock) := by
        have : w1.heap = w.heap := by rcases hw1 with rfl | rfl <;> rfl
        simp [setBlock, this, Array.getElem?_setIfInBounds_ne hrb, h1]
      have hr1 : (setBlock w1 r (.mapIter (some b) since (seen.push e.born) clock)).heap[r]? = some (.mapIter (some b) since (seen.push e.born) clock) := by
        have : w1.heap = w.heap := by rcases hw1 with rfl | rfl <;> rfl
        simp [setBlock, this, Array.getElem?_setIfInBounds, (Array.getElem?_eq_some_iff.1 h5).1]
      exact ⟨es, clock, since, seen.push e.born, clock, hb1, h2, h3, h4, hr1, h7, h7, rfl⟩
    · rcases hw1 with rfl | rfl
      · exact ⟨rfl, rfl, rfl, by simp [setBlock], fun q _ hq => Array.getElem?_setIfInBounds_ne (Ne.symm hq)⟩
      · exact ⟨rfl, rfl, rfl, by simp [setBlock], fun q _ hq => Array.getElem?_setIfInBounds_ne (Ne.symm hq)⟩
    · have hb1 : (setBlock w1 r (.mapIter (some b) since (seen.push e.born) clock)).heap[b]? = some (.map es clock) := by
        have : w1.heap = w.heap := by rcases hw1 with rfl | rfl <;> rfl
        simp [setBlock, this, Array.getElem?_setIfInBounds_ne hrb, h1]
      have hr1 : (setBlock w1 r (.mapIter (some b) since (seen.push e.born) clock)).heap[r]? = some (.mapIter (some b) since (seen.push e.born) clock) := by
        have : w1.heap = w.heap := by rcases hw1 with rfl | rfl <;> rfl
        simp [setBlock, this, Array.getElem?_setIfInBounds, (Array.getElem?_eq_some_iff.1 h5).1]
      have := run_entry_at (P := P) (setBlock w1 r (.mapIter (some b) since (seen.push e.born) clock)) r b since seen es clock e hr1 hb1 hm h4
      rw [this, ← ek, ev]
end
end Go.Proofs.Ytleiddajojgmmaa
