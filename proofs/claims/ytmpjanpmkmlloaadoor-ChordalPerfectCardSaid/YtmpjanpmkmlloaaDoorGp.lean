/- Colours against the greatest clique: no fewer colours than its nodes; the colouring found has just as many. No program, no condition. -/
import Derived.Test.YtmpjanpmkmlloaaDoorGc
namespace Go.Proofs.YtmpjanpmkmlloaaDoor
open Go Go.RowKit VC
set_option linter.unusedSimpArgs false
set_option linter.unusedVariables false

theorem omg_spec {N : List Nat} (hN : VN N) : omg N < 2 ^ N.length ∧ Clq N (omg N) := by
  have h0 : 0 < 2 ^ N.length := Nat.pow_pos (by omega)
  have h1 : omg N < 2 ^ N.length := bestN_lt h0
  have hp := hN.pow
  refine ⟨h1, (cliq_iff (by omega)).1 (bestN_ok ?_ _)⟩
  exact (cliq_iff (by omega)).2 fun i hi => by simp at hi
theorem col_least {N : List Nat} (hN : VN N) {l : List Int} (h : ColP N l) : pc (omg N) ≤ pc (orAll l) := by
  obtain ⟨h1, h2⟩ := omg_spec hN
  have hlt : ∀ i, (omg N).testBit i = true → i < N.length := fun i hi => bit_lt h1 hi
  have hmem : ∀ i, i < l.length → gi l i ∈ l := fun i hi => by rw [← gi_get hi]; exact List.getElem_mem hi
  unfold pc
  have hnd : ((els (omg N)).map fun i => (gi l i).toNat).Nodup := by
    refine (List.pairwise_map).2 ((List.Pairwise.and_mem.1 (nodup_els (omg N))).imp ?_)
    rintro i j ⟨hi, hj, hne⟩ e
    have hi := (mem_els.1 hi).2
    have hj := (mem_els.1 hj).2
    have := h.prop i j (by rw [h.len]; exact hlt i hi) (h2 i hi j hj (fun e => hne e.symm))
    have a := h.rng i (by rw [h.len]; exact hlt i hi)
    have b := h.rng j (by rw [h.len]; exact hlt j hj)
    omega
  have := hnd.length_le_of_subset (l₂ := els (orAll l)) fun c hc => by
    obtain ⟨i, hi, rfl⟩ := List.mem_map.1 hc
    have hi := hlt i (mem_els.1 hi).2
    have a := h.rng i (by rw [h.len]; exact hi)
    exact mem_els.2 ⟨by omega, orAll_bit.2 ⟨_, hmem i (by rw [h.len]; exact hi), rfl⟩⟩
  simpa using this
theorem found_col {N : List Nat} (hN : VN N) {l : List Nat} (hl : cdfs N (pc (omg N)) N.length [] = some l) : colB N (ofN l) = true ∧ colN N (ofN l) = pc (omg N) := by
  have hlen : l.length = N.length := by simpa using (cdfs_len hl).1
  have hpre := cdfs_sound (⟨fun i hi => by simp at hi, fun i j hi => by simp at hi⟩ : Pre N (pc (omg N)) []) hl
  have h12 := pc_le (omg N)
  have hc : ColP N (ofN l) := by
    refine ⟨by simp [hlen], fun i hi => ?_, fun i j hi he => ?_⟩
    · have := hpre.1 i (by simpa using hi)
      rw [gi_ofN]; omega
    · have hi : i < l.length := by simpa using hi
      have hj : j < l.length := by
        rw [hlen]
        exact bit_lt (hN.nb_lt i) he
      rw [gi_ofN, gi_ofN]
      intro e
      have e : gn l j = gn l i := by omega
      rcases Nat.lt_trichotomy j i with h | h | h
      · exact hpre.2 i j hi h he e
      · subst h; exact E.ne hN he rfl
      · exact hpre.2 j i hj h (he.symm hN) e.symm
  refine ⟨colB_iff.2 hc, ?_⟩
  have hge := col_least hN hc
  unfold colN
  rw [if_pos (colB_iff.2 hc)]
  have hle : pc (orAll (ofN l)) ≤ pc (omg N) := by
    have : (els (orAll (ofN l))).length ≤ (List.range (pc (omg N))).length := by
      refine (nodup_els _).length_le_of_subset fun c hc => ?_
      obtain ⟨x, hx, rfl⟩ := orAll_bit.1 (mem_els.1 hc).2
      obtain ⟨n, hn, rfl⟩ := List.mem_map.1 hx
      obtain ⟨i, hi, rfl⟩ := List.mem_iff_getElem.1 hn
      have := hpre.1 i hi
      rw [← gn_get hi] at this
      simpa using this
    simpa [pc] using this
  omega
end Go.Proofs.YtmpjanpmkmlloaaDoor
