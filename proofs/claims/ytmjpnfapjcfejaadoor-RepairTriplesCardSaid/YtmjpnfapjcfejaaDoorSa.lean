/- Maps whose keys are ints, gone through by range. No condition. -/
import Derived.Test.YtmjpnfapjcfejaaDoorVq
import Derived.Maps.RangeRun
import Derived.Test.YtmjpnfapjcfejaaDoorSh
import Derived.Test.YtmjpnfapjcfejaaDoorMr
namespace Go.Proofs.YtmjpnfapjcfejaaDoor.VC
open Go Go.RowKit
open Go.ChangeMaps (setBlock)
set_option linter.unusedSimpArgs false
set_option linter.unusedVariables false

/-- What a map holds, each entry with a stamp of its own. -/
structure MapSt (w : World) (b : Nat) (kv : List (Int × Value)) : Prop where
  ex : ∃ es clock, w.heap[b]? = some (.map es clock) ∧ es.toList.map (fun e => (e.key, e.val)) = kv.map (fun p => (Value.int .i64 p.1, p.2)) ∧ (∀ e ∈ es.toList, e.born < clock) ∧ (es.toList.map (·.born)).Nodup
section
variable {w w' : World} {b : Nat} {kv : List (Int × Value)}
theorem MapSt.toI (h : MapSt w b kv) : MapI w b kv := by
  obtain ⟨es, c, h1, h2, _⟩ := h.ex
  exact ⟨es, c, h1, h2⟩
theorem MapSt.lt (h : MapSt w b kv) : b < w.heap.size := h.toI.lt
theorem MapSt.fr {S : Nat → Prop} (h : MapSt w b kv) (hf : Fr S w w') (hs : ¬ S b) : MapSt w' b kv := by
  have hlt := h.lt
  obtain ⟨es, c, h1, h2⟩ := h.ex
  exact ⟨es, c, (hf.block b hlt hs).trans h1, h2⟩
theorem MapSt.grow (h : MapSt w b kv) (hf : Grow w w') : MapSt w' b kv := h.fr (Fr.of_grow (S := fun _ => False) hf) id
theorem MapSt.make {P : Program} (t : TypeId) (w : World) {K : Value → World → Prop} (hk : ∀ w', w' = w.alloc (.map #[] 0) → MapSt w' w.heap.size [] → Grow w w' → w'.heap.size = w.heap.size + 1 → K (.map (some w.heap.size)) w') :
    ∃ v : Value, ∃ w' : World, (Instr.makeMap t none).run P w = .ok v w' ∧ K v w' := by
  refine ⟨_, _, run_makeMap t w, hk _ rfl ⟨#[], 0, heap_alloc_new w _, rfl, fun e he => by simp at he, by simp⟩ ((Grow.refl w).alloc _) (by simp)⟩
theorem map_modify_born {f : MapEntry → MapEntry} (hf : ∀ e, (f e).born = e.born) : ∀ (l : List MapEntry) (j : Nat), (l.modify j f).map (·.born) = l.map (·.born)
  | [], j => by simp
  | e :: r, 0 => by simp [hf]
  | e :: r, j + 1 => by simp [map_modify_born hf r j]
theorem MapSt.set {P : Program} {t kt et : TypeId} (ht : P.underlying t = some (.map kt et)) (hk : P.underlying kt = some (.int .i64)) (h : MapSt w b kv) (k : Int) (v : Value) :
    ∃ w', (Instr.mapUpdate t (.map (some b)) (.int .i64 k) v).run P w = .ok () w' ∧ MapSt w' b (updM kv k v) ∧ Fr (fun q => q = b) w w' := by
  have hlt := h.lt
  obtain ⟨es, c, h1, h2, h3, h4⟩ := h.ex
  have hf : Instr.findNow (.int .i64) (.int .i64 k) es.toList 0 = some (idxK kv k 0) := findNow_kv _ _ _ h2
  have hc : ∀ e, (Instr.checkKey e 10000 kt (.int .i64 k)).run P w = .ok () w := fun e => MapKept.run_checkKey (k := .int .i64 k) hk (by simp [MapKept.IsKey]) e 9999
  have fr : ∀ o, Fr (fun q => q = b) w { w with heap := w.heap.setIfInBounds b o } := fun o => ⟨rfl, rfl, rfl, by simp, fun q _ hq => Array.getElem?_setIfInBounds_ne fun e => hq e.symm⟩
  have at_ : ∀ o, (w.heap.setIfInBounds b o)[b]? = some o := fun o => by simp [Array.getElem?_setIfInBounds, hlt]
  cases hx : idxK kv k 0 with
  | none =>
    rw [hx] at hf
    refine ⟨_, ?_, ⟨_, _, at_ (.map (es.push { key := .int .i64 k, val := v, born := c }) (c + 1)), updM_push h2 hx, ?_, ?_⟩, fr _⟩
    · simp [Instr.mapUpdate, underlying_run ht, MapKept.run_getObj_map h1, hc, MapKept.run_findKey hk hf, MapKept.run_setObj_map _ h1]
    · intro e he
      simp only [Array.toList_push, List.mem_append, List.mem_singleton] at he
      rcases he with he | rfl
      · have := h3 e he; omega
      · show c < c + 1
        omega
    · rw [Array.toList_push, List.map_append]
      refine List.nodup_append.2 ⟨h4, by simp, fun a ha b hb e => ?_⟩
      obtain ⟨x, hx, rfl⟩ := List.mem_map.1 ha
      have := h3 x hx
      simp at hb
      omega
  | some p =>
    obtain ⟨j, u⟩ := p
    rw [hx] at hf
    have hj : ∃ e, es[j]? = some e ∧ e.key = .int .i64 k := by
      have h4 := idxK_at kv k j u hx
      have h5 : (es.toList.map (fun e => (e.key, e.val)))[j]? = some (.int .i64 k, u) := by rw [h2, List.getElem?_map, h4]; rfl
      rw [List.getElem?_map, Option.map_eq_some_iff] at h5
      obtain ⟨e, he, h6⟩ := h5
      simp only [Prod.mk.injEq] at h6
      exact ⟨e, by simpa using he, h6.1⟩
    obtain ⟨e, he, hke⟩ := hj
    have hborn : ((es.modify j fun e => { e with key := .int .i64 k, val := v }).toList.map (·.born)) = es.toList.map (·.born) := by
      rw [Array.toList_modify]
      exact map_modify_born (f := fun e => { e with key := .int .i64 k, val := v }) (fun _ => rfl) _ _
    refine ⟨_, ?_, ⟨_, _, at_ (.map (es.modify j fun e => { e with key := .int .i64 k, val := v }) c), ?_, fun x hx' => ?_, by rw [hborn]; exact h4⟩, fr _⟩
    · have hs : Instr.sameBits 10000 (.int .i64 k) (.int .i64 k) = true := by simp [Instr.sameBits]
      simp [Instr.mapUpdate, underlying_run ht, MapKept.run_getObj_map h1, hc, MapKept.run_findKey hk hf, MapKept.run_setObj_map _ h1, Instr.keyThatStays, he, hke, hs]
    · rw [Array.toList_modify]
      exact updM_modify es.toList kv j h2 hx
    · have : x.born ∈ es.toList.map (·.born) := by rw [← hborn]; exact List.mem_map.2 ⟨x, hx', rfl⟩
      obtain ⟨y, hy, e⟩ := List.mem_map.1 this
      rw [← e]
      exact h3 y hy
/-! ## range -/
def kvE (e : MapEntry) : Int × Value := (match e.key with | .int _ k => k | _ => 0, e.val)
/-- A range under way: what is still to come, in any order. -/
structure ItS (w : World) (b r : Nat) (kv left : List (Int × Value)) : Prop where
  ex : ∃ es clock since seen c0, w.heap[b]? = some (.map es clock) ∧ es.toList.map (fun e => (e.key, e.val)) = kv.map (fun p => (Value.int .i64 p.1, p.2)) ∧ (∀ e ∈ es.toList, e.born < since) ∧ (es.toList.map (·.born)).Nodup ∧ w.heap[r]? = some (.mapIter (some b) since seen c0) ∧ since ≤ c0 ∧ since ≤ clock ∧ left = ((es.toList.filter fun e => !seen.contains e.born).map kvE)
theorem kv_of {es : List MapEntry} (h : es.map (fun e => (e.key, e.val)) = kv.map (fun p => (Value.int .i64 p.1, p.2))) : es.map kvE = kv := by
  have : (es.map (fun e => (e.key, e.val))).map (fun p => ((match p.1 with | .int _ k => k | _ => 0 : Int), p.2)) = kv := by
    rw [h, List.map_map]
    conv => rhs; rw [← List.map_id kv]
    rfl
  rw [List.map_map] at this
  exact this
theorem key_of {es : List MapEntry} (h : es.map (fun e => (e.key, e.val)) = kv.map (fun p => (Value.int .i64 p.1, p.2))) : ∀ e ∈ es, e.key = .int .i64 (kvE e).1 := by
  intro e he
  have : (e.key, e.val) ∈ kv.map (fun p => (Value.int .i64 p.1, p.2)) := h ▸ List.mem_map.2 ⟨e, he, rfl⟩
  obtain ⟨p, hp, e2⟩ := List.mem_map.1 this
  have e3 : e.key = Value.int .i64 p.1 := (congrArg Prod.fst e2).symm
  unfold kvE
  rw [e3]
theorem ItS.fr {r : Nat} {left : List (Int × Value)} {S : Nat → Prop} (h : ItS w b r kv left) (hf : Fr S w w') (hb : ¬ S b) (hr : ¬ S r) : ItS w' b r kv left := by
  obtain ⟨es, clock, since, seen, c0, h1, h2, h3, h4, h5, h6⟩ := h.ex
  exact ⟨es, clock, since, seen, c0, (hf.block b (Array.getElem?_eq_some_iff.1 h1).1 hb).trans h1, h2, h3, h4, (hf.block r (Array.getElem?_eq_some_iff.1 h5).1 hr).trans h5, h6⟩
theorem ItS.grow {r : Nat} {left : List (Int × Value)} (h : ItS w b r kv left) (hf : Grow w w') : ItS w' b r kv left := h.fr (Fr.of_grow (S := fun _ => False) hf) id id
theorem MapSt.range {P : Program} {t kt et : TypeId} (ht : P.underlying t = some (.map kt et)) (h : MapSt w b kv) {K : Value → World → Prop} (hk : ∀ w', ItS w' b w.heap.size kv kv → Grow w w' → w'.heap.size = w.heap.size + 1 → K (.pointer (some ⟨w.heap.size, 0, none⟩)) w') :
    ∃ v : Value, ∃ w' : World, (Instr.range t (.map (some b))).run P w = .ok v w' ∧ K v w' := by
  obtain ⟨es, c, h1, h2, h3, h4⟩ := h.ex
  have hg : Grow w (w.alloc (.mapIter (some b) c #[] c)) := (Grow.refl w).alloc _
  refine ⟨_, _, run_range_map w t kt et b es c ht h1, hk _ ⟨es, c, c, #[], c, ?_, h2, h3, h4, heap_alloc_new w _, Nat.le_refl _, Nat.le_refl _, ?_⟩ hg (by simp)⟩
  · exact (hg.block b (Array.getElem?_eq_some_iff.1 h1).1).trans h1
  · have e : es.toList.filter (fun e => !(#[] : Array Nat).contains e.born) = es.toList := List.filter_eq_self.2 fun x _ => by simp
    rw [e, kv_of h2]
theorem perm_out {α : Type} {β : Type} [DecidableEq β] (f : α → β) : ∀ {l : List α} {e : α}, (l.map f).Nodup → e ∈ l → l.Perm (e :: l.filter fun x => decide (f x ≠ f e))
  | a :: r, e, hn, he => by
    rw [List.map_cons, List.nodup_cons] at hn
    rcases List.mem_cons.1 he with rfl | he
    · have : (e :: r).filter (fun x => decide (f x ≠ f e)) = r := by
        rw [List.filter_cons, if_neg (by simp)]
        refine List.filter_eq_self.2 fun x hx => decide_eq_true fun h => hn.1 ?_
        rw [← h]
        exact List.mem_map.2 ⟨x, hx, rfl⟩
      rw [this]
    · have hne : f a ≠ f e := fun h => hn.1 (h ▸ List.mem_map.2 ⟨e, he, rfl⟩)
      rw [List.filter_cons, if_pos (by simpa using hne)]
      exact ((perm_out f hn.2 he).cons a).trans (List.Perm.swap _ _ _)
/-- The step: nothing is left, or one of what is left comes out. -/
theorem ItS.next {P : Program} {r : Nat} {left : List (Int × Value)} (h : ItS w b r kv left) (hrb : r ≠ b) (ty : TypeId) :
    (left = [] ∧ (Instr.next (.pointer (some ⟨r, 0, none⟩)) false ty).run P w = .ok (.tuple #[.bool false]) w) ∨
    ∃ p left' w', left.Perm (p :: left') ∧ (Instr.next (.pointer (some ⟨r, 0, none⟩)) false ty).run P w = .ok (.tuple #[.bool true, .int .i64 p.1, p.2]) w' ∧ ItS w' b r kv left' ∧ Fr (fun q => q = r) w w' ∧ (Instr.entry (.pointer (some ⟨r, 0, none⟩))).run P w' = .ok (.tuple #[.int .i64 p.1, p.2]) w' := by
  obtain ⟨es, clock, since, seen, c0, h1, h2, h3, h4, h5, h6, h7, rfl⟩ := h.ex
  have hl : (leftOf es seen).toList = es.toList.filter fun e => !seen.contains e.born := by
    unfold leftOf
    simp
  rcases run_next_at (P := P) w ty r b since c0 seen es clock h5 h1 h3 h6 with ⟨h0, hrun⟩ | ⟨e, he, w1, hw1, hrun⟩
  · refine .inl ⟨?_, hrun⟩
    rw [← hl]
    have : (leftOf es seen).toList = [] := by
      apply List.eq_nil_of_length_eq_zero
      simpa using h0
    rw [this]
    rfl
  · refine .inr ⟨kvE e, (es.toList.filter fun x => !(seen.push e.born).contains x.born).map kvE, setBlock w1 r (.mapIter (some b) since (seen.push e.born) clock), ?_, ?_, ?_, ?_, ?_⟩
    · rw [hl] at he
      have hperm := perm_out (·.born) (l := es.toList.filter fun e => !seen.contains e.born) (e := e) (h4.sublist (List.Sublist.map _ (List.filter_sublist ..))) he
      have e2 : (es.toList.filter fun e => !seen.contains e.born).filter (fun x => decide (x.born ≠ e.born)) = es.toList.filter fun x => !(seen.push e.born).contains x.born := by
        rw [List.filter_filter]
        refine List.filter_congr fun x _ => ?_
        rw [Bool.eq_iff_iff]
        simp only [Bool.and_eq_true, decide_eq_true_eq, Bool.not_eq_true', ← Bool.not_eq_true, Array.contains_iff_mem, Array.mem_push, not_or]
        exact ⟨fun h => ⟨h.2, h.1⟩, fun h => ⟨h.2, h.1⟩⟩
      rw [e2] at hperm
      exact hperm.map kvE
    · have hm : e ∈ es.toList := by
        rw [hl] at he
        exact (List.mem_filter.1 he).1
      rw [hrun, key_of h2 e hm]
      rfl
    · have hb1 : (setBlock w1 r (.mapIter (some b) since (seen.push e.born) clock)).heap[b]? = some (.map es clock) := by
        have : w1.heap = w.heap := by rcases hw1 with rfl | rfl <;> rfl
        simp [setBlock, this, Array.getElem?_setIfInBounds_ne hrb, h1]
      have hr1 : (setBlock w1 r (.mapIter (some b) since (seen.push e.born) clock)).heap[r]? = some (.mapIter (some b) since (seen.push e.born) clock) := by
        have : w1.heap = w.heap := by rcases hw1 with rfl | rfl <;> rfl
        simp [setBlock, this, Array.getElem?_setIfInBounds, (Array.getElem?_eq_some_iff.1 h5).1]
      exact ⟨es, clock, since, seen.push e.born, clock, hb1, h2, h3, h4, hr1, h7, h7, rfl⟩
    · rcases hw1 with rfl | rfl
      · exact ⟨rfl, rfl, rfl, by simp [setBlock], fun q _ hq => Array.getElem?_setIfInBounds_ne (Ne.symm hq)⟩
      · exact ⟨rfl, rfl, rfl, by simp [setBlock], fun q _ hq => Array.getElem?_setIfInBounds_ne (Ne.symm hq)⟩
    · have hm : e ∈ es.toList := by
        rw [hl] at he
        exact (List.mem_filter.1 he).1
      have hb1 : (setBlock w1 r (.mapIter (some b) since (seen.push e.born) clock)).heap[b]? = some (.map es clock) := by
        have : w1.heap = w.heap := by rcases hw1 with rfl | rfl <;> rfl
        simp [setBlock, this, Array.getElem?_setIfInBounds_ne hrb, h1]
      have hr1 : (setBlock w1 r (.mapIter (some b) since (seen.push e.born) clock)).heap[r]? = some (.mapIter (some b) since (seen.push e.born) clock) := by
        have : w1.heap = w.heap := by rcases hw1 with rfl | rfl <;> rfl
        simp [setBlock, this, Array.getElem?_setIfInBounds, (Array.getElem?_eq_some_iff.1 h5).1]
      have := run_entry_at (P := P) (setBlock w1 r (.mapIter (some b) since (seen.push e.born) clock)) r b since seen es clock e hr1 hb1 hm h4
      rw [this, key_of h2 e hm]
      rfl
end
end Go.Proofs.YtmjpnfapjcfejaaDoor.VC

/- Contracts: valid books, keys, blocks, by the program. No condition. -/
namespace Go.Proofs.YtmjpnfapjcfejaaDoor
open Go Go.RowKit VC
set_option linter.unusedSimpArgs false
set_option linter.unusedVariables false

theorem el_mapI : Tryd.prog.underlying 93 = some (.map 3 3) ∧ Tryd.prog.underlying 3 = some (.int .i64) ∧ Tryd.prog.info? 3 = some Tryd.t3 ∧ Tryd.t3.zero = some (.int .i64 0) := ⟨by kernel_rfl, by kernel_rfl, by kernel_rfl, by kernel_rfl⟩
theorem pinR {α : Type} {k : Nat} {rep : World → List Value → α → Prop} {w0 w : World} {v : Value} {xs : List α} (h : SlX k rep w0 v xs) (g : Grow w0 w) : SlX k (fun _ cs x => rep w0 cs x) w v xs := by
  obtain ⟨a, c, e, h1, h2, h3, h4⟩ := h.ex
  exact ⟨a, c, e, h1, h2, h3, fun i hi => by
    obtain ⟨b, cs, e1, e2, e3, e4⟩ := h4 i hi
    exact ⟨b, cs, e1, e2, fun t u ht => g.cell (e3 t u ht), e4⟩⟩
/-- A fact or an atom, copied into a variable; its Args as they stood before. -/
theorem locR {P : Program} {w0 w : World} {v : Value} {l : List Atm} (h : SlA w0 v l) (g : Grow w0 w) {i : Nat} {j : Int} (hj : j = (i : Int)) (hi : i < l.length) {zs : Array Value} (hz : zs.size = 2) {t : TypeId} {K : World → Prop}
    (hk : ∀ w2 u, Grow w w2 → w.heap.size < w2.heap.size → SlI w0 u l[i].2 → RecV w2 w.heap.size [.int .i64 l[i].1, u] → K w2) :
    ∃ (a : Addr) (m c : Nat), v = .slice (some a) m c ∧ ((0 : Int) ≤ j ∧ j < (m : Int)) ∧ ∃ cs : List Value, cs.length = 2 ∧ (∀ t u, cs[t]? = some u → w.cell? (Addr.add (a.add (Int.toNat j * 2)) t) = some u) ∧
      ∀ w1, w1 = w.alloc (.cells zs t) → ∃ cs' : Array Value, (Value.agg cs.toArray) = Value.agg cs' ∧ cs'.size = 2 ∧ ∃ w2 : World, (storeCells ⟨w.heap.size, 0, none⟩ cs'.toList).run P w1 = .ok () w2 ∧ K w2 := by
  refine SlX.rd (pinR h g) hj hi fun cs hl hr w1 hw1 => ?_
  obtain ⟨u, rfl, hu⟩ := hr
  have := RecV.init (P := P) (cs := [.int .i64 l[i].1, u]) hw1 (by rw [hz]; rfl) (by
    intro y hy
    simp at hy
    rcases hy with rfl | rfl
    · rfl
    · exact hu.one.2) (K := K) fun w2 hg hs hc => hk w2 u hg hs hu hc
  rw [hz] at this
  exact this
/-! ## Valid -/
def okAr (pre : List Atm) (f : Atm) : Bool := okF f && pre.all fun g => !decide (g.1 = f.1) || (decide (g.2.length = f.2.length) && !decide (g.2 = f.2))
def okL (L : List Atm) : Bool := L.all okF && okP L
theorem okR_okL (s : List Int) (L : List Atm) : okR s L = (okS s && decide (L.length ≤ 12) && okL L) := by
  unfold okR okL
  rw [Bool.and_assoc (okS s && decide (L.length ≤ 12))]
theorem okL_app (L : List Atm) (f : Atm) : okL (L ++ [f]) = (okL L && okAr L f) := by
  rw [Bool.eq_iff_iff]
  simp only [okL, okAr, Bool.and_eq_true, okP_iff, List.pairwise_append, List.all_append, List.all_cons, List.all_nil, Bool.and_true, List.mem_singleton, forall_eq, List.all_eq_true]
  have e : ∀ g : Atm, (!decide (g.1 = f.1) || (decide (g.2.length = f.2.length) && !decide (g.2 = f.2))) = true ↔ (g.1 = f.1 → g.2.length = f.2.length ∧ g.2 ≠ f.2) := fun g => by
    by_cases h : g.1 = f.1
    · simp [h]
    · simp [h]
  constructor
  · rintro ⟨⟨h1, h2⟩, h3, -, h4⟩
    exact ⟨⟨h1, h3⟩, h2, fun g hg => (e g).2 (h4 g hg)⟩
  · rintro ⟨⟨h1, h3⟩, h2, h4⟩
    exact ⟨⟨h1, h2⟩, h3, List.pairwise_singleton _ _, fun g hg => (e g).1 (h4 g hg)⟩
theorem okL_take {L : List Atm} (h : okL L = true) (k : Nat) : okL (L.take k) = true := by
  simp only [okL, Bool.and_eq_true, okP_iff, List.all_eq_true] at h ⊢
  exact ⟨fun a ha => h.1 a (List.mem_of_mem_take ha), h.2.sublist (List.take_sublist k L)⟩
theorem okL_bad {L : List Atm} {k : Nat} (hk : k < L.length) (h : okAr (L.take k) L[k] = false) : okL L = false := by
  rw [← Bool.not_eq_true]
  intro h2
  have := okL_take h2 (k + 1)
  rw [List.take_succ_eq_append_getElem hk, okL_app, h, Bool.and_false] at this
  cases this
theorem mkF {f : Atm} (h0 : 0 ≤ f.1) (h5 : f.1 ≤ 5) (h1 : 1 ≤ f.2.length) (h3 : f.2.length ≤ 3) (ha : ∀ x ∈ f.2, 1 ≤ x) (hb : ∀ x ∈ f.2, x ≤ 99) : okF f = true := okF_iff.2 ⟨h0, h5, h1, h3, fun x hx => ⟨ha x hx, hb x hx⟩⟩
theorem notF {f : Atm} (h : ¬ (0 ≤ f.1 ∧ f.1 ≤ 5 ∧ 1 ≤ f.2.length ∧ f.2.length ≤ 3 ∧ ∀ x ∈ f.2, 1 ≤ x ∧ x ≤ 99)) : okF f = false := by
  rw [← Bool.not_eq_true, okF_iff]
  exact h
theorem notAr {pre : List Atm} {f : Atm} (h : okF f = false) : okAr pre f = false := by rw [okAr, h, Bool.false_and]
theorem notArG {pre : List Atm} {f g : Atm} (hg : g ∈ pre) (e : g.1 = f.1) (h : g.2.length ≠ f.2.length ∨ g.2 = f.2) : okAr pre f = false := by
  rw [okAr, ← Bool.not_eq_true, Bool.and_eq_true, List.all_eq_true]
  intro h2
  have := h2.2 g hg
  rcases h with h | h <;> simp [e, h] at this
/-- The lengths that the map holds. -/
structure MapOf (kv : List (Int × Value)) (pre : List Atm) : Prop where
  has : ∀ f ∈ pre, getM kv f.1 = some (.int .i64 (f.2.length : Int))
  is : ∀ r, getM kv r ≠ none → ∃ f ∈ pre, f.1 = r
theorem MapOf.nil : MapOf [] [] := ⟨fun f hf => (by cases hf), fun r h => absurd rfl h⟩
theorem MapOf.upd {kv : List (Int × Value)} {pre : List Atm} (h : MapOf kv pre) {f : Atm} (hl : ∀ g ∈ pre, g.1 = f.1 → g.2.length = f.2.length) : MapOf (updM kv f.1 (.int .i64 (f.2.length : Int))) (pre ++ [f]) := by
  refine ⟨fun g hg => ?_, fun r hr => ?_⟩
  · rw [getM_upd]
    split
    · rename_i e
      rcases List.mem_append.1 hg with hg | hg
      · rw [hl g hg e]
      · rw [List.mem_singleton.1 hg]
    · rename_i e
      rcases List.mem_append.1 hg with hg | hg
      · exact h.has g hg
      · rw [List.mem_singleton.1 hg] at e
        exact absurd rfl e
  · rw [getM_upd] at hr
    split at hr
    · rename_i e
      exact ⟨f, List.mem_append_right _ (List.mem_singleton.2 rfl), e.symm⟩
    · obtain ⟨g, hg, e⟩ := h.is r hr
      exact ⟨g, List.mem_append_left _ hg, e⟩
theorem read1_c {w : World} {r r' : Int} {u u' : Value} {xs ys : List Int} {p : Addr} (hu : SlI w u xs) (c0 : w.cell? (p.add 0) = some (.int .i64 r')) (c1 : w.cell? (p.add 1) = some u') (hu' : SlI w u' ys) :
    Calls Tryd.prog 53 #[.agg #[.int .i64 r, u], .pointer (some p)] w (Ret w (.bool (decide (r = r') && decide (xs = ys)))) := by
  refine f53_calls _ _ ?_
  refine ⟨_, rfl, fun w1 hw1 => ?_⟩
  have g1 := alloc_grow hw1
  refine ⟨_, boxc hw1 0 _ rfl, _, g1.cell c0, condD (fun h => ⟨_, boxc hw1 1 _ rfl, _, g1.cell c1, (equal_c (hu.grow g1) (hu'.grow g1)).mono ?_⟩) fun h => ⟨?_, g1⟩⟩
  · rintro e w7 ⟨rfl, g7⟩
    exact ⟨_, rfl, by rw [decide_eq_true h, Bool.true_and], g1.trans g7⟩
  · rw [decide_eq_false h, Bool.false_and]
theorem read_c {w : World} {sv fv : Value} {s : List Int} {L : List Atm} (hs : SlI w sv s) (hl : SlA w fv L) : Calls Tryd.prog 26 #[sv, fv] w fun e w' => ∃ x y, e = .returned (.tuple #[.agg #[x, y], .bool (okR s L)]) ∧ oneV x ∧ oneV y ∧ (okR s L = true → x = sv ∧ y = fv) ∧ Grow w w' := by
  refine f26_calls _ _ ?_
  obtain ⟨um, uk, ui, uz⟩ := el_mapI
  intro w1 hw1
  have g1 := alloc_grow hw1
  have s1 := alloc_size hw1
  have hR := RecV.new hw1
  have nl : oneV (.slice none 0 0) := ⟨rfl, rfl⟩
  have no : ∀ {w'}, Grow w1 w' → okR s L = false → ∃ cs : Array Value, (Value.agg #[(.slice none 0 0), (.slice none 0 0)]) = .agg cs ∧ cs.size = 2 ∧ ∃ w2 : World, (storeCells ⟨w.heap.size, 0, none⟩ cs.toList).run Tryd.prog w' = .ok () w2 ∧ ∃ ds : List Value, ds.length = 2 ∧ (∀ (j : Nat) (v : Value), ds[j]? = some v → w2.cell? (Addr.add ⟨w.heap.size, 0, none⟩ j) = some v) ∧
      ∃ x y, Ending.returned (.tuple #[.agg ds.toArray, .bool false]) = .returned (.tuple #[.agg #[x, y], .bool (okR s L)]) ∧ oneV x ∧ oneV y ∧ (okR s L = true → x = sv ∧ y = fv) ∧ Grow w w2 := fun {w'} g hbad => by
    refine RecV.store (cs := [.slice none 0 0, .slice none 0 0]) (hR.grow g) rfl (by simp [Value.oneCell']) fun w2 hf hr => ⟨[_, _], rfl, hr.all, _, _, (by rw [hbad]), nl, nl, fun h => (by rw [hbad] at h; cases h), (g1.trans g).fr hf fun i hi e => by omega⟩
  refine hs.ln (condP_i (fun h6 => no (Grow.refl _) ?_) fun h6 => ?_)
  · have h6 : ¬ s.length = 6 := by simp at h6; omega
    rw [okR, okS, decide_eq_false h6]; simp
  have h6 : s.length = 6 := by simp at h6; omega
  refine (minI_c (hs.grow g1) (by omega)).mono ?_
  rintro e w8 ⟨mn, rfl, hmn, hmin, g8⟩
  refine ⟨_, rfl, condD (fun h => no g8 ?_) fun h => ?_⟩
  · have : s.all (fun x => decide (0 ≤ x) && decide (x ≤ 3)) = false := by
      rw [← Bool.not_eq_true, List.all_eq_true]
      intro h2
      have := h2 mn hmn
      simp at this
      omega
    rw [okR, okS, this]; simp
  refine (maxI_c (hs.grow (g1.trans g8)) (by omega)).mono ?_
  rintro e w14 ⟨mx, rfl, hmx, hmax, g14⟩
  have g114 := g8.trans g14
  refine ⟨_, rfl, condD (fun h => no g114 ?_) fun h3 => ?_⟩
  · have : s.all (fun x => decide (0 ≤ x) && decide (x ≤ 3)) = false := by
      rw [← Bool.not_eq_true, List.all_eq_true]
      intro h2
      have := h2 mx hmx
      simp at this
      omega
    rw [okR, okS, this]; simp
  have hS : okS s = true := by
    rw [okS, decide_eq_true h6, Bool.true_and, List.all_eq_true]
    intro x hx
    have := hmin x hx
    have := hmax x hx
    simp
    omega
  refine SlX.ln (hl.gr (g1.trans g114)) (condD (fun h => no g114 ?_) fun h12 => ?_)
  · rw [okR, decide_eq_false (by omega : ¬ L.length ≤ 12)]; simp
  have eR : okR s L = okL L := by rw [okR_okL, hS, decide_eq_true (by omega : L.length ≤ 12)]; rfl
  rw [eR] at no ⊢
  refine MapI.make _ w14 fun w26 hw26 hm26 g26 s26 => SlX.ln (hl.gr ((g1.trans g114).trans g26)) ?_
  have g126 := g114.trans g26
  refine ⟨fun t w' => ∃ (k : Nat) (kv : List (Int × Value)), t = k ∧ k ≤ L.length ∧ okL (L.take k) = true ∧ MapI w' w14.heap.size kv ∧ MapOf kv (L.take k) ∧ Fr (fun i => i = w14.heap.size) w26 w', fun t _ => L.length - t.toNat, ⟨0, [], rfl, by omega, rfl, hm26, MapOf.nil, Fr.refl _ _⟩, ?_⟩
  rintro - t w35 ⟨k, kv, rfl, hk, hok, hm, hkv, hf35⟩
  have gW : ∀ {w'}, Fr (fun i => i = w14.heap.size) w26 w' → Grow w1 w' := fun hf => g126.fr hf fun i hi e => by have := g114.size; omega
  have g35 := gW hf35
  refine condD (fun hlt => ?_) fun hge => ?_
  · have hkl : k < L.length := by omega
    refine locR hl (g1.trans g35) rfl hkl rfl fun w41 u g41 s41 hu hc => ?_
    have g141 := g35.trans g41
    have bad : ∀ {w'}, Grow w1 w' → okAr (L.take k) L[k] = false → _ := fun {w'} g h => no g (okL_bad hkl h)
    refine ⟨_, hc.cell (j := 0) rfl, condD (fun h => bad g141 (notAr (notF fun h2 => by omega))) fun q0 => ⟨_, hc.cell (j := 0) rfl, condD (fun h => bad g141 (notAr (notF fun h2 => by omega))) fun q5 => ?_⟩⟩
    refine ⟨_, hc.cell (j := 1) rfl, hu.ln (condD (fun h => bad g141 (notAr (notF fun h2 => by omega))) fun q1 => ⟨_, hc.cell (j := 1) rfl, hu.ln (condD (fun h => bad g141 (notAr (notF fun h2 => by omega))) fun q3 => ?_)⟩)⟩
    refine ⟨_, hc.cell (j := 1) rfl, (minI_c (hu.grow (g1.trans g141)) (by omega)).mono ?_⟩
    rintro e w66 ⟨mn2, rfl, hmn2, hmin2, g66⟩
    refine ⟨_, rfl, condD (fun h => bad (g141.trans g66) (notAr (notF fun h2 => by have := h2.2.2.2.2 _ hmn2; omega))) fun q4 => ?_⟩
    refine ⟨_, (hc.grow g66).cell (j := 1) rfl, (maxI_c (hu.grow ((g1.trans g141).trans g66)) (by omega)).mono ?_⟩
    rintro e w73 ⟨mx2, rfl, hmx2, hmax2, g73⟩
    have g4173 := g66.trans g73
    refine ⟨_, rfl, condD (fun h => bad (g141.trans g4173) (notAr (notF fun h2 => by have := h2.2.2.2.2 _ hmx2; omega))) fun q6 => ?_⟩
    have hF : okF L[k] = true := mkF (by omega) (by omega) (by omega) (by omega) (fun x hx => by have := hmin2 x hx; omega) (fun x hx => by have := hmax2 x hx; omega)
    have hc73 := hc.grow g4173
    have hm73 := (hm.grow g41).grow g4173
    have f73 : Fr (fun i => i = w14.heap.size) w26 w73 := hf35.trans (Fr.of_grow (g41.trans g4173))
    have s2635 := hf35.size
    have s4173 := g4173.size
    have s3541 := g41.size
    refine ⟨_, hc73.cell (j := 0) rfl, ?_⟩
    rw [hm73.get (P := Tryd.prog) um uk ui uz]
    -- what follows once the lengths agree
    have next : (∀ g ∈ L.take k, g.1 = L[k].1 → g.2.length = L[k].2.length) → ∃ t_v90 : Int, w73.cell? (Addr.add ⟨w35.heap.size, 0, none⟩ 0) = some (Value.int .i64 t_v90) ∧ ∃ t_v91 : Value, w73.cell? (Addr.add ⟨w35.heap.size, 0, none⟩ 1) = some t_v91 ∧ ∃ (a_v92 : Option Addr) (n_v93 c_v94 : Nat), t_v91 = Value.slice a_v92 n_v93 c_v94 ∧ ∃ w_v95 : World, (Instr.mapUpdate 93 (.map (some w14.heap.size)) (Value.int .i64 t_v90) (Value.int .i64 (n_v93 : Int))).run Tryd.prog w73 = .ok () w_v95 ∧ ∃ (a_v96 : Option Addr) (n_v97 c_v98 : Nat), fv = Value.slice a_v96 n_v97 c_v98 ∧ ∃ l_v99 h_v100 m_v101 : Nat, sbR none (some (Value.int .i64 (k : Int))) none n_v97 c_v98 l_v99 h_v100 m_v101 ∧ Calls Tryd.prog 52 #[(Value.slice (if m_v101 = l_v99 then a_v96 else a_v96.map (·.add (l_v99 * 2))) (h_v100 - l_v99) (m_v101 - l_v99)), (Value.func (Fn.func 53) #[] #[(Value.pointer (some ⟨w35.heap.size, 0, none⟩))])] w_v95 fun e_v103 w_v102 => ∃ t_v104 : Bool, e_v103 = .returned (Value.bool t_v104) ∧ condP t_v104 (∃ cs : Array Value, (Value.agg #[(.slice none 0 0), (.slice none 0 0)]) = .agg cs ∧ cs.size = 2 ∧ ∃ w2 : World, (storeCells ⟨w.heap.size, 0, none⟩ cs.toList).run Tryd.prog w_v102 = .ok () w2 ∧ ∃ ds : List Value, ds.length = 2 ∧ (∀ (j : Nat) (v : Value), ds[j]? = some v → w2.cell? (Addr.add ⟨w.heap.size, 0, none⟩ j) = some v) ∧
      ∃ x y, Ending.returned (.tuple #[.agg ds.toArray, .bool false]) = .returned (.tuple #[.agg #[x, y], .bool (okL L)]) ∧ oneV x ∧ oneV y ∧ (okL L = true → x = sv ∧ y = fv) ∧ Grow w w2) (inR ((k : Int) + 1) ∧ ((∃ (k' : Nat) (kv : List (Int × Value)), (k : Int) + 1 = k' ∧ k' ≤ L.length ∧ okL (L.take k') = true ∧ MapI w_v102 w14.heap.size kv ∧ MapOf kv (L.take k') ∧ Fr (fun i => i = w14.heap.size) w26 w_v102) ∧ L.length - Int.toNat ((k : Int) + 1) < L.length - Int.toNat (k : Int))) := fun hlen => by
      obtain ⟨w95, hr95, hm95, f95⟩ := hm73.set (P := Tryd.prog) um uk L[k].1 (.int .i64 (L[k].2.length : Int))
      have f2695 := f73.trans f95
      have g95 := gW f2695
      have hc95 : RecV w95 w35.heap.size [.int .i64 L[k].1, u] := hc73.fr f95 fun e => by omega
      have hu95 := hu.grow (g1.trans g95)
      obtain ⟨ua, un, uc, ue, ul, uh, umm, ub, hv'⟩ := SlX.upto (hl.gr (g1.trans g95)) (ik := .i64) (K := fun x => SlA w95 x (L.take k)) rfl (Nat.le_of_lt hkl) fun v' hv' => hv'
      refine ⟨_, hc73.cell (j := 0) rfl, _, hc73.cell (j := 1) rfl, hu.ln ⟨w95, hr95, ua, un, uc, ue, ul, uh, umm, ub, ?_⟩⟩
      refine (containsFact_c (p := fun g => decide (g.1 = L[k].1) && decide (g.2 = L[k].2)) hv' ⟨53, #[], _, rfl, rfl, fun g hg w' u' gg hgu => ?_⟩).mono ?_
      · rw [app1]
        exact read1_c hgu (gg.cell (hc95.cell (j := 0) rfl)) (gg.cell (hc95.cell (j := 1) rfl)) (hu95.grow gg)
      · rintro e w102 ⟨rfl, g102⟩
        refine ⟨_, rfl, condP_i (fun hb => ?_) fun hb => ?_⟩
        · obtain ⟨g, hg, h2⟩ := List.any_eq_true.1 hb
          rw [Bool.and_eq_true, decide_eq_true_eq, decide_eq_true_eq] at h2
          exact no (g95.trans g102) (okL_bad hkl (notArG hg h2.1 (.inr h2.2)))
        · refine ⟨by unfold inR; omega, ⟨k + 1, _, by omega, by omega, ?_, hm95.grow g102, ?_, f2695.trans (Fr.of_grow g102)⟩, by omega⟩
          · rw [List.take_succ_eq_append_getElem hkl, okL_app, hok, Bool.true_and, okAr, hF, Bool.true_and, List.all_eq_true]
            intro g hg
            by_cases e : g.1 = L[k].1
            · have h2 : ¬ g.2 = L[k].2 := fun h2 => by
                have : (L.take k).any (fun g => decide (g.1 = L[k].1) && decide (g.2 = L[k].2)) = true := List.any_eq_true.2 ⟨g, hg, by rw [e, h2]; simp⟩
                rw [hb] at this
                cases this
              simp [e, h2, hlen g hg e]
            · simp [e]
          · rw [List.take_succ_eq_append_getElem hkl]
            exact hkv.upd hlen
    cases hg : getM kv L[k].1 with
    | none =>
      refine ⟨0, false, w73, rfl, cF rfl (next fun g hgm e => ?_)⟩
      have := hkv.has g hgm
      rw [e, hg] at this
      cases this
    | some v =>
      obtain ⟨f, hfm, e⟩ := hkv.is L[k].1 (by rw [hg]; simp)
      have hv := hkv.has f hfm
      rw [e, hg] at hv
      obtain rfl := Option.some.inj hv
      refine ⟨_, true, w73, rfl, cT rfl ⟨_, hc73.cell (j := 1) rfl, hu.ln (condP_i (fun hne => bad (g141.trans g4173) (notArG hfm e (.inl ?_))) fun heq => next fun g hgm e2 => ?_)⟩⟩
      · simp at hne
        omega
      · have := hkv.has g hgm
        rw [e2, hg] at this
        have h9 := Option.some.inj this
        simp at heq h9
        omega
  · have hkl : k = L.length := by omega
    subst hkl
    rw [List.take_length] at hok
    refine ⟨hs.one, SlX.one hl, RecV.store (cs := [sv, fv]) (hR.grow g35) rfl (by
      intro u hu
      simp at hu
      rcases hu with rfl | rfl
      · exact hs.one.2
      · exact (SlX.one hl).2) fun w2 hf hr => ⟨[_, _], rfl, hr.all, _, _, (by rw [hok]), hs.one, SlX.one hl, fun _ => ⟨rfl, rfl⟩, (g1.trans g35).fr hf fun i hi e => by omega⟩⟩
end Go.Proofs.YtmjpnfapjcfejaaDoor

/- Contracts: keys and blocks, by the program. No condition. -/
namespace Go.Proofs.YtmjpnfapjcfejaaDoor
open Go Go.RowKit VC
set_option linter.unusedSimpArgs false
set_option linter.unusedVariables false

theorem okS_get {s : List Int} (hS : okS s = true) {r : Int} (h0 : 0 ≤ r) (h5 : r ≤ 5) : ∃ h : r.toNat < s.length, s[r.toNat] = (klS s r : Int) ∧ klS s r ≤ 3 := by
  obtain ⟨h6, hx⟩ := okS_out hS
  have h : r.toNat < s.length := by omega
  have e : s.getD r.toNat 0 = s[r.toNat] := by simp [List.getD, h]
  have := hx _ (List.getElem_mem h)
  refine ⟨h, ?_, ?_⟩
  · unfold klS; rw [e]; omega
  · unfold klS; rw [e]; omega
theorem take_min {α : Type} (xs : List α) (k : Nat) : xs.take (min k xs.length) = xs.take k := by
  rcases Nat.lt_or_ge k xs.length with h | h
  · rw [Nat.min_eq_left (by omega)]
  · rw [Nat.min_eq_right h, List.take_length, List.take_of_length_le h]
theorem key_c {w : World} {sv fv u : Value} {s : List Int} {r : Int} {xs : List Int} (hs : SlI w sv s) (hS : okS s = true) (h0 : 0 ≤ r) (h5 : r ≤ 5) (hu : SlI w u xs) :
    ∃ v', SlI w v' (xs.take (klS s r)) ∧ ∀ w2, Grow w w2 → Calls Tryd.prog 76 #[.agg #[sv, fv], .int .i64 r, u] w2 (Ret w2 v') := by
  obtain ⟨hi, e, h3⟩ := okS_get hS h0 h5
  obtain ⟨ua, un, uc, ue, ul, uh, um, ub, hv'⟩ := hu.upto (i := min (klS s r) xs.length) (k := .i64) (K := fun x => SlI w x (xs.take (klS s r))) rfl (Nat.min_le_right _ _) fun v' h => by rwa [take_min] at h
  obtain ⟨a0, c0, e0, -⟩ := SlC.ex hu
  have en : un = xs.length := by
    rw [e0] at ue
    injection ue with _ h _
    exact h.symm
  refine ⟨_, hv', fun w2 g => f76_calls _ _ _ ?_⟩
  refine ⟨_, rfl, fun w3 hw3 => ?_⟩
  have g3 := alloc_grow hw3
  refine ⟨_, boxc hw3 0 _ rfl, (hs.grow (g.trans g3)).rd (by omega) hi ⟨ua, un, uc, ue, ua, un, uc, ue, ul, uh, um, ?_, rfl, g3⟩⟩
  have ez : (if (un : Int) < s[r.toNat] then (un : Int) else s[r.toNat]) = ((min (klS s r) xs.length : Nat) : Int) := by
    rw [e, en]
    split <;> omega
  rw [ez]
  exact ub
theorem block1_c {w : World} {sv fv u u' : Value} {s : List Int} {r r' : Int} {xs ys : List Int} {p q : Addr} (hs : SlI w sv s) (hS : okS s = true) (h0 : 0 ≤ r) (h5 : r ≤ 5) (hu : SlI w u xs) (hu' : SlI w u' ys) (c0 : w.cell? (p.add 0) = some (.int .i64 r')) (c1 : w.cell? (p.add 1) = some u') (b0 : w.cell? (q.add 0) = some sv) (b1 : w.cell? (q.add 1) = some fv) :
    Calls Tryd.prog 75 #[.agg #[.int .i64 r, u], .pointer (some p), .pointer (some q)] w (Ret w (.bool (decide (kF (klS s) (r, xs) = kF (klS s) (r', ys))))) := by
  refine f75_calls _ _ _ ?_
  refine ⟨_, rfl, fun w1 hw1 => ?_⟩
  have g1 := alloc_grow hw1
  refine ⟨_, boxc hw1 0 _ rfl, _, g1.cell c0, condD (fun h => ?_) fun h => ?_⟩
  · obtain ⟨v1, hv1, k1⟩ := key_c (fv := fv) (hs.grow g1) hS h0 h5 (hu.grow g1)
    obtain ⟨v2, hv2, k2⟩ := key_c (fv := fv) (hs.grow g1) hS (h ▸ h0) (h ▸ h5) (hu'.grow g1)
    refine ⟨[sv, fv], rfl, two (g1.cell b0) (g1.cell b1), _, boxc hw1 0 _ rfl, _, boxc hw1 1 _ rfl, v1, fun w8 g8 => k1 w8 g8, [sv, fv], rfl, two (g1.cell b0) (g1.cell b1), _, g1.cell c0, _, g1.cell c1, v2, fun w15 g15 => k2 w15 g15, _, fun w19 g19 => equal_c (hv1.grow g19) (hv2.grow g19), fun w23 g23 => ⟨?_, g1.trans g23⟩⟩
    have : (kF (klS s) (r, xs) = kF (klS s) (r', ys)) ↔ xs.take (klS s r) = ys.take (klS s r') := by
      unfold kF
      rw [Prod.mk.injEq]
      exact ⟨fun h => h.2, fun h2 => ⟨h, h2⟩⟩
    rw [decide_eq_decide.2 this]
  · intro w24 g24
    refine ⟨?_, g1.trans g24⟩
    rw [decide_eq_false fun e => h (kF_rel e)]
theorem blk_idx {kl : Int → Nat} {L : List Atm} {i : Nat} (hi : i < L.length) : idxOf (fun g => decide (kF kl g = kF kl (fa L i))) L = (blkN kl L i : Int) := by
  obtain ⟨h1, h2, h3⟩ := blk_spec (kl := kl) hi
  have hl := blk_lt (kl := kl) hi
  refine idxOf_some hl ?_ fun j hj hlt => ?_
  · rw [← fa_get hl, decide_eq_true h2]
  · rw [← fa_get hj, decide_eq_false (h3 j hlt)]
theorem okF_rel {f : Atm} (h : okF f = true) : 0 ≤ f.1 ∧ f.1 ≤ 5 := by
  have := okF_iff.1 h
  exact ⟨this.1, this.2.1⟩
theorem okR_all {s : List Int} {L : List Atm} (h : okR s L = true) : ∀ f ∈ L, okF f = true := by
  simp only [okR_okL, okL, Bool.and_eq_true, List.all_eq_true] at h
  exact h.2.1
theorem block_c {w : World} {sv fv : Value} {s : List Int} {L : List Atm} (hs : SlI w sv s) (hl : SlA w fv L) (hR : okR s L = true) {i : Nat} (hi : i < L.length) :
    Calls Tryd.prog 48 #[.agg #[sv, fv], .int .i64 (i : Int)] w (Ret w (.int .i64 (blkN (klS s) L i : Int))) := by
  refine f48_calls _ _ ?_
  refine ⟨_, rfl, fun w1 hw1 => ?_⟩
  have g1 := alloc_grow hw1
  have hB := RecV.new hw1
  refine ⟨_, boxc hw1 1 _ rfl, locR hl g1 rfl hi rfl fun w9 u g9 s9 hu hc => ⟨_, g9.cell (boxc hw1 1 _ rfl), ?_⟩⟩
  have g09 := g1.trans g9
  refine (indexFact_c (p := fun g => decide (kF (klS s) g = kF (klS s) (fa L i))) (hl.gr g09) ⟨75, #[], _, rfl, rfl, fun g hg w' u' gg hgu => ?_⟩).mono ?_
  · have hr := okF_rel (okR_all hR g hg)
    have := block1_c (fv := fv) (hs.grow (g09.trans gg)) (okR_out hR).1 hr.1 hr.2 hgu (hu.grow (g09.trans gg)) (gg.cell (hc.cell (j := 0) rfl)) (gg.cell (hc.cell (j := 1) rfl)) ((hB.grow (g9.trans gg)).cell (j := 0) rfl) ((hB.grow (g9.trans gg)).cell (j := 1) rfl)
    rw [← fa_get hi] at this
    exact this
  · rintro e w12 ⟨rfl, g12⟩
    exact ⟨_, rfl, by rw [blk_idx hi], g09.trans g12⟩
def blksL (s : List Int) (L : List Atm) : List Int := (List.range L.length).map fun i => (blkN (klS s) L i : Int)
theorem blksL_len (s : List Int) (L : List Atm) : (blksL s L).length = L.length := by simp [blksL]
theorem blksL_get {s : List Int} {L : List Atm} {i : Nat} (hi : i < (blksL s L).length) : (blksL s L)[i] = (blkN (klS s) L i : Int) := by simp [blksL]
theorem blocks_c {w : World} {sv fv : Value} {s : List Int} {L : List Atm} (hs : SlI w sv s) (hl : SlA w fv L) :
    Calls Tryd.prog 24 #[sv, fv] w fun e w' => ∃ v, e = .returned (.tuple #[v, .int .i64 (if okR s L = true then 0 else 2)]) ∧ SlI w' v (if okR s L = true then blksL s L else []) ∧ Grow w w' := by
  refine f24_calls _ _ ?_
  refine (read_c hs hl).mono ?_
  rintro e w1 ⟨x, y, rfl, hx, hy, hxy, g1⟩
  refine ⟨_, _, rfl, fun w5 hw5 => RecV.init (cs := [x, y]) hw5 rfl (by simp [hx.2, hy.2]) fun w6 g6 s6 hB => ?_⟩
  have g06 := g1.trans g6
  refine condP_i (fun hn => ?_) fun hk => ?_
  · have hn : okR s L = false := by simpa using hn
    rw [hn]
    exact ⟨_, rfl, SlI.nil _, g06⟩
  have hk : okR s L = true := by simpa using hk
  obtain ⟨rfl, rfl⟩ := hxy hk
  rw [if_pos hk, if_pos hk]
  refine SlX.ln (hl.gr g06) ⟨fun out t w' => ∃ k : Nat, t = k ∧ k ≤ L.length ∧ OwnI w' w6.heap.size out ((blksL s L).take k) ∧ Grow w6 w', fun _ t _ => L.length - t.toNat, ⟨0, rfl, by omega, Own.nil _ _ _ _, Grow.refl _⟩, ?_⟩
  rintro - out t w16 ⟨k, rfl, hkl, hout, g16⟩
  have g016 := g06.trans g16
  refine condD (fun hlt => ?_) fun hge => ?_
  · have hi : k < L.length := by omega
    have hlen : ((blksL s L).take k).length = k := by rw [List.length_take, blksL_len]; omega
    have h12 := (okR_out hk).2.1
    refine ⟨[_, _], rfl, (hB.grow g16).all, (block_c (hs.grow g016) (hl.gr g016) hk hi).mono ?_⟩
    rintro e w18 ⟨rfl, g18⟩
    refine ⟨_, rfl, fun w21 hw21 => papp1 el_int hw21 (Own.grow hout g18) rfl (by have := g16.size; have := g18.size; omega) (by rw [hlen]; omega) (by omega) fun v' w' ho hf _ => ⟨by unfold inR; omega, ⟨k + 1, by omega, by omega, ?_, ?_⟩, by dsimp only; omega⟩⟩
    · rw [List.take_succ_eq_append_getElem (by rw [blksL_len]; exact hi), blksL_get]
      unfold OwnI
      rw [List.length_append, List.map_append]
      exact ho
    · exact ((g16.trans g18).trans (alloc_grow hw21)).fr hf fun b hb e => by have := (Own.lt hout e.symm).1; omega
  · have : k = L.length := by omega
    subst this
    rw [List.take_of_length_le (by rw [blksL_len]; exact Nat.le_refl _)] at hout
    exact ⟨_, rfl, Own.slI hout, g016⟩
end Go.Proofs.YtmjpnfapjcfejaaDoor

/- Contracts: trailing zeros, the facts of a repair. The table of bits is laid (Tab). -/
namespace Go.Proofs.YtmjpnfapjcfejaaDoor
open Go Go.RowKit VC
set_option linter.unusedSimpArgs false
set_option linter.unusedVariables false

def tab64 : List Nat := [0, 1, 56, 2, 57, 49, 28, 3, 61, 58, 42, 50, 38, 29, 17, 4, 62, 47, 59, 36, 45, 43, 51, 22, 53, 39, 33, 30, 24, 18, 12, 5, 63, 55, 48, 27, 60, 41, 37, 16, 46, 35, 44, 21, 52, 32, 23, 11, 54, 26, 40, 15, 34, 20, 31, 10, 25, 14, 19, 9, 13, 8, 7, 6]
/-- The table of package math/bits stands where it stood at the start. -/
def Tab (w : World) : Prop := ∀ j, j < 64 → w.cell? (Addr.add ⟨1, 0, none⟩ j) = some (.int .u8 (tab64.getD j 0 : Nat))
theorem Tab.grow {w w' : World} (h : Tab w) (hg : Grow w w') : Tab w' := fun j hj => hg.cell (h j hj)
/-! ## Questions -/
end Go.Proofs.YtmjpnfapjcfejaaDoor

/- Contracts: the reference's valid books, blocks, repairs. No condition. -/
namespace Go.Proofs.YtmjpnfapjcfejaaDoor
open Go Go.RowKit VC
set_option linter.unusedSimpArgs false
set_option linter.unusedVariables false

theorem bitR {s i : Nat} (h : i < 63) : (iAnd .i64 (iShr .i64 (s : Int) (i : Int)) 1 = 1) ↔ s.testBit i = true := by
  rw [iBit _ (by omega), ibit_nat]
  cases s.testBit i <;> simp
end Go.Proofs.YtmjpnfapjcfejaaDoor

/- Contracts: the reference's questions. No condition. -/
namespace Go.Proofs.YtmjpnfapjcfejaaDoor
open Go Go.RowKit VC
set_option linter.unusedSimpArgs false
set_option linter.unusedVariables false

section
variable {w : World} {sv fv hv bv : Value} {s h : List Int} {b L : List Atm}
/-- The least and the greatest of a list, if it is not empty. -/
def LowHigh (l : List Int) (lo hi : Int) : Prop := lo ∈ l ∧ hi ∈ l ∧ ∀ x ∈ l, lo ≤ x ∧ x ≤ hi
theorem LowHigh.uniq {l : List Int} {lo hi lo' hi' : Int} (h : LowHigh l lo hi) (h' : LowHigh l lo' hi') : lo = lo' ∧ hi = hi' := by
  have a := h.2.2 _ h'.1
  have b := h.2.2 _ h'.2.1
  have c := h'.2.2 _ h.1
  have d := h'.2.2 _ h.2.1
  exact ⟨by omega, by omega⟩
end
end Go.Proofs.YtmjpnfapjcfejaaDoor

/- Contracts: what the statements about repairs have in common. The table of bits is laid where it is asked (Tab). -/
namespace Go.Proofs.YtmjpnfapjcfejaaDoor
open Go Go.RowKit VC
set_option linter.unusedSimpArgs false
set_option linter.unusedVariables false

theorem few7_c {w : World} {v : Value} {xs : List Int} (hs : SlI w v xs) : Calls Tryd.prog 7 #[v] w fun e w' => ∃ v', e = .returned v' ∧ OwnI w' w.heap.size v' (xs.take 9) ∧ Grow w w' := by
  refine f7_calls _ ?_
  have hle := hs.len_le
  have e : (if 9 < (xs.length : Int) then (9 : Int) else xs.length) = ((min 9 xs.length : Nat) : Int) := by split <;> omega
  refine hs.ln ?_
  rw [e]
  obtain ⟨a, n, c, e1, l, h, m, h2, hv'⟩ := hs.upto (i := min 9 xs.length) (k := .i64) (K := fun x => SlI w x (xs.take 9)) rfl (by omega) fun v' hv' => by rwa [take_min] at hv'
  refine ⟨a, n, c, e1, l, h, m, h2, (clone_c hv' (by simp; omega)).mono ?_⟩
  rintro e w1 ⟨u, rfl, ho, g1⟩
  exact ⟨u, rfl, u, rfl, ho, g1⟩
theorem fill_three {A : Array Value} (h : A.size = 6) {a0 a1 b0 b1 c0 c1 : Value} : Instr.fill (fun i => some (i * 2, 2)) A [(0, .agg #[a0, a1]), (1, .agg #[b0, b1]), (2, .agg #[c0, c1])] = some #[a0, a1, b0, b1, c0, c1] := by
  obtain ⟨l⟩ := A
  match l, h with
  | [x0, x1, x2, x3, x4, x5], _ => rfl
theorem bs3 {P : Program} {t e : TypeId} {bytes : Nat} {z : Value} (hT : ElT P t e 2 bytes z) {a0 a1 b0 b1 c0 c1 : Value} (w : World) {K : Value → World → Prop}
    (hk : ∀ w', w' = w.alloc (.cells #[a0, a1, b0, b1, c0, c1] e) → K (.slice (some ⟨w.heap.size, 0, none⟩) 3 3) w') : ∃ v : Value, ∃ w' : World, (Instr.buildSlice t 3 #[(0, .agg #[a0, a1]), (1, .agg #[b0, b1]), (2, .agg #[c0, c1])]).run P w = .ok v w' ∧ K v w' := by
  obtain ⟨i, hi, hz, hsize, hby⟩ := hT.info
  refine ⟨_, _, ?_, hk _ rfl⟩
  have hs : (sizeOf e).run P w = .ok 2 w := by simp [sizeOf, typeInfo, hi, hsize]
  have hzr : (zeroValue e).run P w = .ok z w := by simp [zeroValue, typeInfo, hi, hz]
  simp only [Instr.buildSlice, Sem.run_bind, underlying_run hT.und, Result.andThen_ok, hs]
  rw [if_neg (by omega), if_neg (by omega)]
  have hf := fill_three (A := (Array.range (3 * 2)).map fun j => z.cells[j % z.cells.size]!) (by simp) (a0 := a0) (a1 := a1) (b0 := b0) (b1 := b1) (c0 := c0) (c1 := c1)
  simp only [Sem.run_bind, hzr, Result.andThen_ok, Sem.run_pure, hf, newRow, run_newObj]
  rfl
theorem awake7_val : okR [1, 1, 1, 1, 1, 1] [(0, [1, 2]), (0, [1, 3]), (0, [2, 3])] = true ∧ blksL [1, 1, 1, 1, 1, 1] [(0, [1, 2]), (0, [1, 3]), (0, [2, 3])] = [0, 0, 2] := by decide +kernel
theorem awake7_c {w : World} : Calls Tryd.prog 13 #[] w (Ret w (.bool true)) := by
  refine f13_calls ?_
  intro w1 hw1 w2 hw2
  have g1 := alloc_grow hw1
  have g2 := alloc_grow hw2
  have hs := slI_lit (xs := [1, 1, 1, 1, 1, 1]) hw1 rfl (by simp)
  have h1 := slI_lit (xs := [1, 2]) hw2 rfl (by simp)
  refine ⟨SlI.one h1, fun w3 hw3 => ?_⟩
  have g3 := alloc_grow hw3
  have h2 := slI_lit (xs := [1, 3]) hw3 rfl (by simp)
  refine ⟨SlI.one h2, fun w4 hw4 => ?_⟩
  have g4 := alloc_grow hw4
  have h3 := slI_lit (xs := [2, 3]) hw4 rfl (by simp)
  refine ⟨SlI.one h3, bs3 el_fact w4 fun w5 hw5 => ?_⟩
  have g5 := alloc_grow hw5
  have hl : SlA w5 (.slice (some ⟨w4.heap.size, 0, none⟩) 3 3) [(0, [1, 2]), (0, [1, 3]), (0, [2, 3])] := by
    have h := Own.lit (B := w4.heap.size) (n := 3) (sz := 2) hw5 (Nat.le_refl _) (by omega) (by simp)
    have := SlX.of_cells (k := 2) (rep := repA) (w := w5) (v := .slice (some ⟨w4.heap.size, 0, none⟩) 3 3) (ps := [([.int .i64 0, .slice (some ⟨w1.heap.size, 0, none⟩) 2 2], (0, [1, 2])), ([.int .i64 0, .slice (some ⟨w2.heap.size, 0, none⟩) 2 2], (0, [1, 3])), ([.int .i64 0, .slice (some ⟨w3.heap.size, 0, none⟩) 2 2], (0, [2, 3]))]) (fun p hp => by
      simp only [List.mem_cons, List.not_mem_nil, or_false] at hp
      rcases hp with rfl | rfl | rfl
      · exact ⟨rfl, _, rfl, SlI.grow h1 ((g3.trans g4).trans g5)⟩
      · exact ⟨rfl, _, rfl, SlI.grow h2 (g4.trans g5)⟩
      · exact ⟨rfl, _, rfl, SlI.grow h3 g5⟩) (by simpa using h.slC)
    simpa using this
  have g05 := (((g1.trans g2).trans g3).trans g4).trans g5
  refine (blocks_c (SlI.grow hs (((g2.trans g3).trans g4).trans g5)) hl).mono ?_
  rintro e w7 ⟨v, rfl, hv, g7⟩
  rw [if_pos awake7_val.1, awake7_val.2] at hv
  refine ⟨_, _, rfl, cT (by rw [if_pos awake7_val.1]; rfl) fun w11 hw11 => ?_⟩
  have g11 := alloc_grow hw11
  have hr := slI_lit (xs := [0, 0, 2]) hw11 rfl (by simp)
  refine (equal_c (hv.grow g11) hr).mono ?_
  rintro e w12 ⟨rfl, g12⟩
  exact ⟨_, rfl, by simp, ((g05.trans g7).trans g11).trans g12⟩
section
variable {w : World} {sv fv hv bv : Value} {s h : List Int} {b L : List Atm}
end
end Go.Proofs.YtmjpnfapjcfejaaDoor

/- Questions answered atom by atom, with numbers for the variables that are known (0: none): what the rule says, and that it says whether a question is certain. Of no program. No condition. -/
namespace Go.Proofs.YtmjpnfapjcfejaaDoor
open VC
set_option linter.unusedSimpArgs false
set_option linter.unusedVariables false

/-! ## Numbers for variables -/
def mg (m : List Int) (x : Nat) : Int := m.getD x 0
def domM (m : List Int) (x : Nat) : Prop := mg m x ≠ 0
def goneK (m : List Int) (k : Nat) : Nat := (List.range k).foldl (fun s x => if mg m x ≠ 0 then s ||| 2 ^ x else s) 0
def goneN (m : List Int) : Nat := goneK m 8
theorem goneK_succ (m : List Int) (k : Nat) : goneK m (k + 1) = if mg m k ≠ 0 then goneK m k ||| 2 ^ k else goneK m k := by
  unfold goneK
  rw [List.range_succ, List.foldl_append]
  rfl
theorem goneK_bit {m : List Int} {x : Nat} : ∀ k, (goneK m k).testBit x = true ↔ x < k ∧ mg m x ≠ 0
  | 0 => by simp [goneK]
  | k + 1 => by
    rw [goneK_succ]
    have ih := goneK_bit (m := m) (x := x) k
    by_cases h : mg m k ≠ 0
    · rw [if_pos h, bit_or_pow, ih]
      constructor
      · rintro (h1 | rfl)
        · exact ⟨by omega, h1.2⟩
        · exact ⟨by omega, h⟩
      · rintro ⟨h1, h2⟩
        by_cases e : x = k
        · exact .inr e
        · exact .inl ⟨by omega, h2⟩
    · rw [if_neg h, ih]
      constructor
      · rintro ⟨h1, h2⟩
        exact ⟨by omega, h2⟩
      · rintro ⟨h1, h2⟩
        by_cases e : x = k
        · subst e
          exact absurd h2 h
        · exact ⟨by omega, h2⟩
theorem mg_out {m : List Int} (hm : m.length = 8) {x : Nat} (h : mg m x ≠ 0) : x < 8 := by
  rcases Nat.lt_or_ge x 8 with h1 | h1
  · exact h1
  · exact absurd (by simp [mg, List.getD, List.getElem?_eq_none (by omega : m.length ≤ x)]) h
theorem goneN_bit {m : List Int} (hm : m.length = 8) {x : Nat} : (goneN m).testBit x = true ↔ domM m x := by
  rw [goneN, goneK_bit]
  exact ⟨fun h => h.2, fun h => ⟨mg_out hm h, h⟩⟩
/-- The variables of an atom, and of its key, that have no number. -/
def VM (m : List Int) (a : Atm) : Nat := nSub (varsL a.2) (goneN m)
def KM (kl : Int → Nat) (m : List Int) (a : Atm) : Nat := nSub (varsL (a.2.take (kl a.1))) (goneN m)
section
variable {kl : Int → Nat} {atoms : List Atm} {m : List Int}
theorem getD_map {α : Type} (f : α → Nat) {l : List α} {i : Nat} (hi : i < l.length) : (l.map f).getD i 0 = f l[i] := by simp [List.getD, hi]
theorem vk_of (hm : m.length = 8) (hA : ∀ a ∈ atoms, okA a = true) : VK_ kl atoms (domM m) (atoms.map (VM m)) (atoms.map (KM kl m)) := by
  refine ⟨by simp, by simp, fun i hi x => ?_, fun i hi x => ?_, fun a ha x hx => ?_⟩
  · rw [getD_map _ hi]
    unfold VM
    rw [nSub_bit, Bool.and_eq_true, Bool.not_eq_true', ← Bool.not_eq_true, goneN_bit hm, varsL_bit]
  · rw [getD_map _ hi]
    unfold KM
    rw [nSub_bit, Bool.and_eq_true, Bool.not_eq_true', ← Bool.not_eq_true, goneN_bit hm, varsL_bit]
    rfl
  · have := (okA_iff.1 (hA a ha)).2.2.2.2 _ hx
    omega
/-! ## The atom that is answered first -/
def freeN (V K : List Nat) : Nat := ((List.range V.length).find? fun g => (List.range V.length).all fun f => !attN V K f g).getD V.length
def freeA (kl : Int → Nat) (atoms : List Atm) (m : List Int) : Nat := freeN (atoms.map (VM m)) (atoms.map (KM kl m))
theorem freeN_spec {V K : List Nat} {g0 : Nat} (hg : g0 < V.length) (h : ∀ f, f < V.length → attN V K f g0 = false) : freeN V K < V.length ∧ (∀ f, f < V.length → attN V K f (freeN V K) = false) ∧ ∀ j, j < freeN V K → ∃ f, f < V.length ∧ attN V K f j = true := by
  unfold freeN
  cases hf : (List.range V.length).find? fun g => (List.range V.length).all fun f => !attN V K f g with
  | none =>
    have := List.find?_eq_none.1 hf g0 (List.mem_range.2 hg)
    refine absurd ?_ this
    rw [List.all_eq_true]
    intro f hf
    rw [h f (List.mem_range.1 hf)]
    rfl
  | some g =>
    have h1 := List.find?_some hf
    have h2 := List.mem_of_find?_eq_some hf
    rw [List.all_eq_true] at h1
    refine ⟨List.mem_range.1 h2, fun f hf => by simpa using h1 f (List.mem_range.2 hf), fun j hj => ?_⟩
    have hj : j < g := hj
    have hgl := List.mem_range.1 h2
    obtain ⟨_, as1, bs1, hsplit, hno⟩ := List.find?_eq_some_iff_append.1 hf
    have hlen : as1.length = g := by
      have h3 : (List.range V.length)[as1.length]? = some g := by rw [hsplit]; simp
      have h4 := (List.getElem?_eq_some_iff.1 h3)
      obtain ⟨h5, h6⟩ := h4
      rw [List.getElem_range] at h6
      exact h6
    have hja : j ∈ as1 := by
      have h3 : (List.range V.length)[j]? = some j := by rw [List.getElem?_range (by omega)]
      rw [hsplit, List.getElem?_append_left (by omega)] at h3
      exact List.mem_of_getElem? h3
    have := hno j hja
    have h7 : ¬ ((List.range V.length).all fun f => !attN V K f j) = true := by simpa using this
    refine Classical.byContradiction fun hn => h7 ?_
    rw [List.all_eq_true]
    intro f hf
    cases hc : attN V K f j with
    | false => rfl
    | true => exact absurd ⟨f, List.mem_range.1 hf, hc⟩ hn
/-- Of atoms without a cycle of attacks: one that nothing attacks. -/
theorem freeA_spec (hm : m.length = 8) (hA : ∀ a ∈ atoms, okA a = true) (hpl : PlainA atoms) (hnd : atoms.Nodup) (hac : Acy kl atoms (domM m)) (hne : atoms ≠ []) : ∃ h : freeA kl atoms m < atoms.length, (∀ F ∈ atoms, ¬ Att kl atoms (domM m) F atoms[freeA kl atoms m]) ∧ (∀ f, f < atoms.length → attN (atoms.map (VM m)) (atoms.map (KM kl m)) f (freeA kl atoms m) = false) ∧ ∀ j, j < freeA kl atoms m → ∃ f, f < atoms.length ∧ attN (atoms.map (VM m)) (atoms.map (KM kl m)) f j = true := by
  have hvk := vk_of (kl := kl) hm hA
  obtain ⟨F0, hF0, hun⟩ := hac.free hne
  obtain ⟨g0, hg0, rfl⟩ := List.getElem_of_mem hF0
  have hl : (atoms.map (VM m)).length = atoms.length := by simp
  have h := freeN_spec (V := atoms.map (VM m)) (K := atoms.map (KM kl m)) (g0 := g0) (by rw [hl]; exact hg0) fun f hf => by
    rw [hl] at hf
    rw [← Bool.not_eq_true, attN_iff hvk hpl hnd hf hg0]
    exact hun _ (List.getElem_mem hf)
  rw [hl] at h
  obtain ⟨h1, h2, h3⟩ := h
  refine ⟨h1, fun F hF ha => ?_, h2, h3⟩
  obtain ⟨f, hf, rfl⟩ := List.getElem_of_mem hF
  have := h2 f hf
  rw [← Bool.not_eq_true, attN_iff hvk hpl hnd hf h1] at this
  exact this ha
end
/-! ## An atom and a fact -/
def fitP (m : Option (List Int)) (p : Int × Int) : Option (List Int) := m.bind fun m => if p.1 < 0 then (if p.2 = -p.1 then some m else none) else if mg m p.1.toNat ≠ 0 ∧ mg m p.1.toNat ≠ p.2 then none else some (m.set p.1.toNat p.2)
def fitR (xs ys m : List Int) : Option (List Int) := (xs.zip ys).foldl fitP (some m)
theorem fit_none : ∀ l : List (Int × Int), l.foldl fitP none = none
  | [] => rfl
  | p :: l => fit_none l
theorem fitR_nil (ys m : List Int) : fitR [] ys m = some m := rfl
theorem fitR_cons (x y : Int) (xs ys m : List Int) : fitR (x :: xs) (y :: ys) m = (fitP (some m) (x, y)).bind (fitR xs ys) := by
  show (xs.zip ys).foldl fitP (fitP (some m) (x, y)) = _
  cases fitP (some m) (x, y) with
  | none => exact fit_none _
  | some m1 => rfl
theorem mg_set {m : List Int} {x y : Nat} {z : Int} (hx : x < m.length) : mg (m.set x z) y = if y = x then z else mg m y := by
  unfold mg
  simp only [List.getD_eq_getElem?_getD, List.getElem?_set]
  by_cases h : x = y
  · subst h
    simp [hx]
  · rw [if_neg h, if_neg (fun e => h e.symm)]
theorem fitR_sound : ∀ {xs ys m m' : List Int}, (∀ x ∈ xs, x ≤ 7) → (∀ y ∈ ys, 1 ≤ y) → m.length = 8 → xs.length ≤ ys.length → fitR xs ys m = some m' →
    m'.length = 8 ∧ (∀ x, mg m x ≠ 0 → mg m' x = mg m x) ∧ xs.map (tV (mg m')) = ys.take xs.length ∧ ∀ x, mg m' x ≠ 0 ↔ mg m x ≠ 0 ∨ ((x : Nat) : Int) ∈ xs
  | [], ys, m, m', _, _, hm, _, h => by
    rw [fitR_nil] at h
    obtain rfl := Option.some.inj h
    exact ⟨hm, fun _ _ => rfl, rfl, fun x => by simp⟩
  | x :: xs, [], _, _, _, _, _, hl, _ => by simp at hl
  | x :: xs, y :: ys, m, m', hx, hy, hm, hl, h => by
    rw [fitR_cons] at h
    have hx0 := hx x (List.mem_cons_self ..)
    have hy0 := hy y (List.mem_cons_self ..)
    have step : ∀ m1, fitP (some m) (x, y) = some m1 → (m1.length = 8 ∧ (∀ z, mg m z ≠ 0 → mg m1 z = mg m z) ∧ (∀ z, mg m1 z ≠ 0 ↔ mg m z ≠ 0 ∨ (z : Int) = x)) ∧ ((x < 0 ∧ y = -x) ∨ (0 ≤ x ∧ mg m1 x.toNat = y)) := fun m1 h1 => by
      have h1 : (if x < 0 then (if y = -x then some m else none) else if mg m x.toNat ≠ 0 ∧ mg m x.toNat ≠ y then none else some (m.set x.toNat y)) = some m1 := h1
      by_cases hneg : x < 0
      · rw [if_pos hneg] at h1
        by_cases hyx : y = -x
        · rw [if_pos hyx] at h1
          obtain rfl := Option.some.inj h1
          refine ⟨⟨hm, fun _ _ => rfl, fun z => ?_⟩, .inl ⟨hneg, hyx⟩⟩
          constructor
          · exact .inl
          · rintro (h2 | h2)
            · exact h2
            · omega
        · rw [if_neg hyx] at h1; cases h1
      · rw [if_neg hneg] at h1
        by_cases hc : mg m x.toNat ≠ 0 ∧ mg m x.toNat ≠ y
        · rw [if_pos hc] at h1; cases h1
        · rw [if_neg hc] at h1
          obtain rfl := Option.some.inj h1
          have hxl : x.toNat < m.length := by omega
          refine ⟨⟨by rw [List.length_set]; exact hm, fun z hz => ?_, fun z => ?_⟩, .inr ⟨by omega, by rw [mg_set hxl, if_pos rfl]⟩⟩
          · rw [mg_set hxl]
            split
            · rename_i e
              subst e
              exact (Classical.byContradiction fun h => hc ⟨hz, h⟩ : mg m x.toNat = y).symm
            · rfl
          · rw [mg_set hxl]
            split
            · rename_i e
              subst e
              exact ⟨fun _ => .inr (by omega), fun _ => by omega⟩
            · rename_i e
              exact ⟨.inl, fun h => h.elim id fun h => absurd (by omega) e⟩
    cases h1 : fitP (some m) (x, y) with
    | none => rw [h1] at h; cases h
    | some m1 =>
      rw [h1] at h
      obtain ⟨⟨a1, a2, a3⟩, a4⟩ := step m1 h1
      obtain ⟨b1, b2, b3, b4⟩ := fitR_sound (fun z hz => hx z (List.mem_cons_of_mem _ hz)) (fun z hz => hy z (List.mem_cons_of_mem _ hz)) a1 (by simpa using hl) (show fitR xs ys m1 = some m' from h)
      refine ⟨b1, fun z hz => ?_, ?_, fun z => ?_⟩
      · rw [b2 z (by rw [a2 z hz]; exact hz), a2 z hz]
      · rw [List.map_cons, List.length_cons, List.take_succ_cons, b3]
        congr 1
        rcases a4 with ⟨c1, c2⟩ | ⟨c1, c2⟩
        · unfold tV
          rw [if_pos c1, c2]
        · unfold tV
          rw [if_neg (by omega), b2 _ (by rw [c2]; omega), c2]
      · rw [b4, a3, List.mem_cons, or_assoc]
/-! ## The rule -/
section
variable (kl : Int → Nat) (L : List Atm)
def rewR : Nat → List Atm → List Int → Bool
  | 0, _, _ => true
  | n + 1, atoms, m =>
    L.any fun f => decide (f.1 = (fa atoms (freeA kl atoms m)).1) && decide (f.2.length = (fa atoms (freeA kl atoms m)).2.length) && (fitR ((fa atoms (freeA kl atoms m)).2.take (kl (fa atoms (freeA kl atoms m)).1)) f.2 m).isSome &&
      L.all fun g => !decide (kF kl g = kF kl f) || (match fitR (fa atoms (freeA kl atoms m)).2 g.2 m with | none => false | some m' => rewR n (atoms.eraseIdx (freeA kl atoms m)) m')
variable {kl} {L}
theorem erase_mem {atoms : List Atm} (hnd : atoms.Nodup) {i : Nat} (hi : i < atoms.length) (a : Atm) : a ∈ atoms.eraseIdx i ↔ a ∈ atoms ∧ a ≠ atoms[i] := by
  rw [List.mem_eraseIdx_iff_getElem]
  constructor
  · rintro ⟨j, hj, hne, rfl⟩
    exact ⟨List.getElem_mem hj, fun e => hne (List.getElem_inj hnd |>.1 e)⟩
  · rintro ⟨h1, h2⟩
    obtain ⟨j, hj, rfl⟩ := List.getElem_of_mem h1
    exact ⟨j, hj, fun e => h2 (by subst e; rfl), rfl⟩
theorem Cert.congr {db atoms : List Atm} {D D' : Nat → Prop} {m m' : Nat → Int} (h : Cert kl db atoms D m) (hD : ∀ x, D' x → D x) (hD2 : ∀ x, D x → D' x) (hm : ∀ x, D x → m' x = m x) : Cert kl db atoms D' m' := fun r hr => by
  obtain ⟨θ, h1, h2⟩ := h r hr
  exact ⟨θ, fun x hx => (h1 x (hD x hx)).trans (hm x (hD x hx)).symm, h2⟩
theorem Acy.congr {atoms : List Atm} {D D' : Nat → Prop} (h : Acy kl atoms D) (hD : ∀ x, D' x ↔ D x) : Acy kl atoms D' := by
  have : D' = D := funext fun x => propext (hD x)
  rw [this]
  exact h
end
end Go.Proofs.YtmjpnfapjcfejaaDoor
