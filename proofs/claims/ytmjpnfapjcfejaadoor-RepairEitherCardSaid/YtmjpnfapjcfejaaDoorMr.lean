/- Contracts: the reference's results, equal rows, a fact is matched; the copies that the statements make. No condition. -/
import Derived.Test.YtmjpnfapjcfejaaDoorMp
namespace Go.Proofs.YtmjpnfapjcfejaaDoor
open Go Go.RowKit VC
set_option linter.unusedSimpArgs false
set_option linter.unusedVariables false

/-! ## Equal rows -/
/-! ## A fact is matched -/
theorem slA_one {w w' : World} {r : Int} {u : Value} {xs : List Int} {e : TypeId} (hw : w' = w.alloc (.cells #[.int .i64 r, u] e)) (hu : SlI w' u xs) : SlA w' (.slice (some ⟨w.heap.size, 0, none⟩) 1 1) [(r, xs)] := by
  have hl := Own.lit (B := w.heap.size) (n := 1) (sz := 2) hw (Nat.le_refl _) (by omega) (by simp)
  have := SlX.of_cells (k := 2) (rep := repA) (w := w') (v := .slice (some ⟨w.heap.size, 0, none⟩) 1 1) (ps := [([.int .i64 r, u], (r, xs))]) (fun p hp => by
    obtain rfl : p = ([.int .i64 r, u], (r, xs)) := by simpa using hp
    exact ⟨rfl, u, rfl, hu⟩) (by simpa using hl.slC)
  simpa using this
theorem slI_lit {w w' : World} {cs : Array Value} {xs : List Int} {e : TypeId} (hw : w' = w.alloc (.cells cs e)) (hc : cs.toList = xs.map VC.encI) (hl : xs.length ≤ 1000) : SlI w' (.slice (some ⟨w.heap.size, 0, none⟩) xs.length xs.length) xs := by
  have h := Own.lit (B := w.heap.size) (n := xs.length) (sz := 1) hw (Nat.le_refl _) (by omega) (by
    rw [← Array.length_toList, hc]; simp)
  rw [hc] at h
  exact Own.slI h
theorem awake_val : resO [1] [(2, [-4, 1])] [(2, [4, 8])] = (0, [[8]]) := by kernel_rfl
/-! ## The copies say the same -/
theorem trA_id {a : Atm} (h : a.2.length ≤ 9) : trA a = a := by
  unfold trA
  rw [List.take_of_length_le h]
theorem trA_len {a : Atm} (h : (trA a).2.length ≤ 3) : a.2.length ≤ 3 := by
  unfold trA at h
  simp only [List.length_take] at h
  omega
theorem map_trA {l : List Atm} (h : ∀ a ∈ l, a.2.length ≤ 9) : l.map trA = l := by
  conv => rhs; rw [← List.map_id l]
  exact List.map_congr_left fun a ha => trA_id (h a ha)
theorem trB_of {h : List Int} {b : List Atm} (hq : okQ h b = true) : trB b = b ∧ h.take 9 = h := by
  obtain ⟨h1, h2, h3⟩ := okQ_len hq
  have hb : ∀ a ∈ b, a.2.length ≤ 9 := fun a ha => by
    simp only [okQ, Bool.and_eq_true, List.all_eq_true] at hq
    have := (okA_iff.1 (hq.1.2 a ha)).2.2.2.1
    omega
  exact ⟨by unfold trB; rw [List.take_of_length_le (by omega), map_trA hb], List.take_of_length_le (by omega)⟩
theorem okQ_tr (h : List Int) (b : List Atm) : okQ (h.take 9) (trB b) = okQ h b := by
  rw [Bool.eq_iff_iff]
  constructor
  · intro hq
    have h0 := hq
    obtain ⟨h1, h2, h3⟩ := okQ_len hq
    have hbl : b.length ≤ 5 := by unfold trB at h2; simp at h2; omega
    have hhl : h.length ≤ 4 := by simp at h3; omega
    have hb : ∀ a ∈ b, a.2.length ≤ 9 := fun a ha => by
      simp only [okQ, Bool.and_eq_true, List.all_eq_true] at hq
      have hm : trA a ∈ trB b := List.mem_map_of_mem (by rw [List.take_of_length_le (by omega)]; exact ha)
      have := trA_len (okA_iff.1 (hq.1.2 _ hm)).2.2.2.1
      omega
    have e1 : trB b = b := by unfold trB; rw [List.take_of_length_le (by omega), map_trA hb]
    rwa [e1, List.take_of_length_le (by omega)] at h0
  · intro hq
    obtain ⟨e1, e2⟩ := trB_of hq
    rwa [e1, e2]
theorem trF_of {l : List Atm} (hf : okFs l = true) : trF l = l := by
  simp only [okFs, Bool.and_eq_true, decide_eq_true_eq, List.all_eq_true] at hf
  unfold trF
  rw [List.take_of_length_le (by omega), map_trA fun a ha => by have := (okF_iff.1 (hf.2 a ha)).2.2.2.1; omega]
theorem okFs_tr (l : List Atm) : okFs (trF l) = okFs l := by
  rw [Bool.eq_iff_iff]
  constructor
  · intro hf
    have h0 := hf
    simp only [okFs, Bool.and_eq_true, decide_eq_true_eq, List.all_eq_true] at hf
    have hl : l.length ≤ 24 := by
      have := hf.1
      unfold trF at this; simp at this; omega
    have hb : ∀ a ∈ l, a.2.length ≤ 9 := fun a ha => by
      have hm : trA a ∈ trF l := List.mem_map_of_mem (by rw [List.take_of_length_le (by omega)]; exact ha)
      have := trA_len (okF_iff.1 (hf.2 _ hm)).2.2.2.1
      omega
    have e1 : trF l = l := by unfold trF; rw [List.take_of_length_le (by omega), map_trA hb]
    rwa [e1] at h0
  · intro hf
    rwa [trF_of hf]
theorem askO_tr (h : List Int) (b l : List Atm) : askO (h.take 9) (trB b) (trF l) = askO h b l := by
  unfold askO
  rw [okQ_tr, okFs_tr]
  split
  · rename_i hq
    rw [Bool.and_eq_true] at hq
    rw [(trB_of hq.1).1, trF_of hq.2]
  · rfl
theorem resO_tr (h : List Int) (b l : List Atm) : resO (h.take 9) (trB b) (trF l) = resO h b l := by
  unfold resO
  rw [okQ_tr, okFs_tr]
  split
  · rename_i hq
    rw [Bool.and_eq_true] at hq
    rw [(trB_of hq.1).1, (trB_of hq.1).2, trF_of hq.2]
  · rfl
theorem ofS_c {w : World} {hv v : Value} {h : List Int} {l : List Atm} (hh : SlI w hv h) (hs : SlA w v l) : Calls Tryd.prog 9 #[.agg #[hv, v]] w fun e w' => ∃ hv' v', e = .returned (.agg #[hv', v']) ∧ SlI w' hv' (h.take 9) ∧ SlA w' v' (trB l) ∧ Grow w w' := by
  refine (of_c hh hs).mono ?_
  rintro e w' ⟨a, b, rfl, h1, h2, g, -⟩
  exact ⟨a, b, rfl, Own.slI h1, h2.slX, g⟩
theorem factsS_c {w : World} {v : Value} {l : List Atm} (hs : SlA w v l) : Calls Tryd.prog 8 #[v] w fun e w' => ∃ v', e = .returned v' ∧ SlA w' v' (trF l) ∧ Grow w w' := by
  refine (facts_c hs).mono ?_
  rintro e w' ⟨a, rfl, h1, g⟩
  exact ⟨a, rfl, h1.slX, g⟩
theorem varsL_bit : ∀ {xs : List Int} {i : Nat}, (varsL xs).testBit i = true ↔ (i : Int) ∈ xs
  | [], i => by simp [varsL]
  | x :: r, i => by
    rw [varsL, Nat.testBit_or, Bool.or_eq_true, varsL_bit, List.mem_cons]
    refine or_congr_left ?_
    split
    · rename_i h
      rw [Nat.testBit_two_pow]
      simp; omega
    · simp; omega
theorem varsB_bit : ∀ {b : List Atm} {i : Nat}, (varsB b).testBit i = true ↔ (i : Int) ∈ b.flatMap Prod.snd
  | [], i => by simp [varsB]
  | a :: r, i => by rw [varsB, Nat.testBit_or, Bool.or_eq_true, varsB_bit, varsL_bit, List.flatMap_cons, List.mem_append]
theorem varsB_append (b c : List Atm) : varsB (b ++ c) = varsB b ||| varsB c := by
  induction b with
  | nil => simp [varsB]
  | cons a r ih => rw [List.cons_append, varsB, varsB, ih, Nat.or_assoc]
theorem okQ_app {h g : List Int} {b c : List Atm} (h1 : okQ h b = true) (h2 : okQ g c = true) (hl : (b ++ c).length ≤ 5) : okQ h (b ++ c) = true := by
  simp only [okQ, Bool.and_eq_true, decide_eq_true_eq, List.all_eq_true] at *
  refine ⟨⟨⟨⟨by simp; omega, hl⟩, h1.1.1.2⟩, fun a ha => (List.mem_append.1 ha).elim (h1.1.2 a) (h2.1.2 a)⟩, fun x hx => ?_⟩
  have := h1.2 x hx
  simp only [okH, Bool.and_eq_true, decide_eq_true_eq] at this ⊢
  exact ⟨this.1, by rw [varsB_append, Nat.testBit_or, this.2]; rfl⟩
theorem askO_ok {h : List Int} {b l : List Atm} (h0 : (askO h b l).1 = 0) : okQ h b = true ∧ okFs l = true ∧ runF l b = some (askO h b l).2 := by
  unfold askO at h0 ⊢
  split at h0
  · rename_i hq
    rw [Bool.and_eq_true] at hq
    refine ⟨hq.1, hq.2, ?_⟩
    rw [if_pos (by rw [hq.1, hq.2]; rfl)]
    split at h0
    · rename_i ms hr
      exact hr
    · cases h0
  · cases h0
theorem askO_cases (h : List Int) (b l : List Atm) : (askO h b l).1 = 0 ∨ (askO h b l).1 = 2 ∨ (askO h b l).1 = 3 := by
  unfold askO
  split
  · split
    · exact .inl rfl
    · exact .inr (.inr rfl)
  · exact .inr (.inl rfl)
theorem okFs_congr {l l' : List Atm} (h : ∀ a, a ∈ l ↔ a ∈ l') (hl : l.length = l'.length) : okFs l = okFs l' := by
  unfold okFs
  rw [hl]
  congr 1
  rw [Bool.eq_iff_iff, List.all_eq_true, List.all_eq_true]
  exact ⟨fun h1 a ha => h1 a ((h a).2 ha), fun h1 a ha => h1 a ((h a).1 ha)⟩
theorem resO_congr {h : List Int} {b l l' : List Atm} (hm : ∀ a, a ∈ l ↔ a ∈ l') (hl : l.length = l'.length) : resO h b l = resO h b l' := by
  unfold resO runF
  rw [okFs_congr hm hl, srtF_congr hm]
theorem resO_cases (h : List Int) (b l : List Atm) : (resO h b l).1 = 0 ∨ (resO h b l).1 = 2 ∨ (resO h b l).1 = 3 := by
  unfold resO
  split
  · split
    · exact .inl rfl
    · exact .inr (.inr rfl)
  · exact .inr (.inl rfl)
theorem resO_ok {h : List Int} {b l : List Atm} (h0 : (resO h b l).1 = 0) : okQ h b = true ∧ okFs l = true ∧ (resO h b l).2 = rowsOf h (allM (srtF l) b) := by
  unfold resO at h0 ⊢
  split at h0
  · rename_i hq
    rw [Bool.and_eq_true] at hq
    refine ⟨hq.1, hq.2, ?_⟩
    rw [if_pos (by rw [hq.1, hq.2]; rfl)]
    split at h0
    · rename_i ms hr
      rw [(runF_some.1 hr).1]
    · cases h0
  · cases h0
end Go.Proofs.YtmjpnfapjcfejaaDoor
