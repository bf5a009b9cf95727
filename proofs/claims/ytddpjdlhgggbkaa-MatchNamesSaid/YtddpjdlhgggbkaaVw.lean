/- Maps from arrays of ints to bools that hold nothing but true. No condition. -/
import Derived.Test.YtddpjdlhgggbkaaVm
import Derived.MapKept
import Derived.WideKeyPair
import Derived.DeepKeys4
namespace Go.Proofs.Ytddpjdlhgggbkaa.VC
open Go Go.RowKit Go.WideMaps
set_option linter.unusedSimpArgs false
set_option linter.unusedVariables false

/-- A map whose keys are ks; all values are true. -/
structure MapB (P : Program) (k : TypeId) (w : World) (b : Nat) (ks : List Value) : Prop where
  ex : ∃ es clock, w.heap[b]? = some (.map es clock) ∧ es.toList.map (·.key) = ks ∧ ∀ e ∈ es.toList, ∃ l, keyOf P k e.key = some l
section
variable {P : Program} {k : TypeId} {w w' : World} {b : Nat} {ks : List Value}
theorem MapB.lt (h : MapB P k w b ks) : b < w.heap.size := by
  obtain ⟨es, c, h1, _⟩ := h.ex
  exact (Array.getElem?_eq_some_iff.1 h1).1
theorem MapB.fr {S : Nat → Prop} (h : MapB P k w b ks) (hf : Fr S w w') (hs : ¬ S b) : MapB P k w' b ks := by
  have hlt := h.lt
  obtain ⟨es, c, h1, h2⟩ := h.ex
  exact ⟨es, c, (hf.block b hlt hs).trans h1, h2⟩
theorem MapB.grow (h : MapB P k w b ks) (hf : Grow w w') : MapB P k w' b ks := h.fr (Fr.of_grow (S := fun _ => False) hf) id
theorem MapB.make (t : TypeId) (w : World) {K : Value → World → Prop} (hk : ∀ w', w' = w.alloc (.map #[] 0) → MapB P k w' w.heap.size [] → Grow w w' → w'.heap.size = w.heap.size + 1 → K (.map (some w.heap.size)) w') :
    ∃ v : Value, ∃ w' : World, (Instr.makeMap t none).run P w = .ok v w' ∧ K v w' := by
  refine ⟨_, _, run_makeMap t w, hk _ rfl ⟨#[], 0, heap_alloc_new w _, rfl, by simp⟩ ((Grow.refl w).alloc _) (by simp)⟩
/-- What is not in it reads as false. -/
theorem MapB.no (K : KeyLaw P k) {t et : TypeId} {i : TypeInfo} (ht : P.underlying t = some (.map k et)) (hi : P.info? et = some i) (hz : i.zero = some (.bool false)) (h : MapB P k w b ks) {x : Value} {l : Lit} (hx : keyOf P k x = some l) (hn : x ∉ ks) :
    (Instr.lookup t (.map (some b)) x false).run P w = .ok (.bool false) w := by
  obtain ⟨es, c, h1, h2, h3⟩ := h.ex
  have hzr : (zeroValue et).run P w = .ok (.bool false) w := by simp [zeroValue, typeInfo, hi, hz]
  rcases K.find w hx es.toList h3 with ⟨h4, h5⟩ | ⟨j, e, h4, h5, h6⟩
  · simp only [Instr.lookup, Sem.run_bind, underlying_run ht, Result.andThen_ok, MapKept.run_getObj_map h1, Sem.run_pure, K.check w _ hx, h4, hzr]
    rfl
  · exact absurd (h6 ▸ h2 ▸ List.mem_map_of_mem (List.mem_of_getElem? h5)) hn
theorem MapB.add (K : KeyLaw P k) {t et : TypeId} (ht : P.underlying t = some (.map k et)) (h : MapB P k w b ks) {x : Value} {l : Lit} (hx : keyOf P k x = some l) (hn : x ∉ ks) :
    ∃ w', (Instr.mapUpdate t (.map (some b)) x (.bool true)).run P w = .ok () w' ∧ MapB P k w' b (ks ++ [x]) ∧ Fr (fun q => q = b) w w' := by
  have hlt := h.lt
  obtain ⟨es, c, h1, h2, h3⟩ := h.ex
  have fr : ∀ o, Fr (fun q => q = b) w { w with heap := w.heap.setIfInBounds b o } := fun o => ⟨rfl, rfl, rfl, by simp, fun q _ hq => Array.getElem?_setIfInBounds_ne fun e => hq e.symm⟩
  have at_ : ∀ o, (w.heap.setIfInBounds b o)[b]? = some o := fun o => by simp [Array.getElem?_setIfInBounds, hlt]
  rcases K.find w hx es.toList h3 with ⟨h4, h5⟩ | ⟨j, e, h4, h5, h6⟩
  · refine ⟨_, ?_, ⟨_, _, at_ (.map (es.push { key := x, val := .bool true, born := c }) (c + 1)), by simp [h2], fun e he => ?_⟩, fr _⟩
    · simp [Instr.mapUpdate, underlying_run ht, MapKept.run_getObj_map h1, K.check w _ hx, h4, MapKept.run_setObj_map _ h1]
    · rw [Array.toList_push] at he
      rcases List.mem_append.1 he with he | he
      · exact h3 e he
      · have : e = { key := x, val := .bool true, born := c } := by simpa using he
        subst this; exact ⟨l, hx⟩
  · exact absurd (h6 ▸ h2 ▸ List.mem_map_of_mem (List.mem_of_getElem? h5)) hn
end
/-- Eight ints as a key. -/
theorem keyOf_eight {P : Program} {k e : TypeId} (A : ArrKey P k e 8) (he : P.underlying e = some (.int .i64)) (hsz : ∃ m, P.types.size = m + 1) {xs : List Int} (hl : xs.length = 8) (hw : ∀ x ∈ xs, (Lit.int .i64 x).wf = true) :
    ∃ l, keyOf P k (.agg (xs.map encI).toArray) = some l := by
  match xs, hl with
  | [a, b, c, d, f, g, h, i], _ =>
    have w0 := hw a (by simp)
    have w1 := hw b (by simp)
    have w2 := hw c (by simp)
    have w3 := hw d (by simp)
    have w4 := hw f (by simp)
    have w5 := hw g (by simp)
    have w6 := hw h (by simp)
    have w7 := hw i (by simp)
    have hkt := A.keyType hsz
    obtain ⟨m, hm⟩ := hsz
    unfold keyOf
    simp only [A.hu]
    rw [if_pos (by simp [hkt, Value.formed, A.hu, A.size]), hm]
    unfold Program.keyLits
    simp only [A.hu, Value.cells]
    rw [if_pos (by rw [A.size]; rfl), show List.range 8 = [0, 1, 2, 3, 4, 5, 6, 7] from rfl]
    simp only [List.mapM_cons, List.mapM_nil]
    simp [A.one, Program.keyLits, he, w0, w1, w2, w3, w4, w5, w6, w7, encI]
end Go.Proofs.Ytddpjdlhgggbkaa.VC
