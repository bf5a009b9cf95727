/- Contracts: the reference's results, equal rows, a fact is matched; the copies that the statements make. No condition. -/
import Derived.Test.YtmjpnfapjcfejaaMp
import Derived.Test.YtmjpnfapjcfejaaMm
namespace Go.Proofs.Ytmjpnfapjcfejaa
open Go Go.RowKit VC
set_option linter.unusedSimpArgs false
set_option linter.unusedVariables false

/-! ## Equal rows -/
/-! ## A fact is matched -/
theorem slI_lit {w w' : World} {cs : Array Value} {xs : List Int} {e : TypeId} (hw : w' = w.alloc (.cells cs e)) (hc : cs.toList = xs.map VC.encI) (hl : xs.length ≤ 1000) : SlI w' (.slice (some ⟨w.heap.size, 0, none⟩) xs.length xs.length) xs := by
  have h := Own.lit (B := w.heap.size) (n := xs.length) (sz := 1) hw (Nat.le_refl _) (by omega) (by
    rw [← Array.length_toList, hc]; simp)
  rw [hc] at h
  exact Own.slI h
/-! ## The copies say the same -/
theorem trA_id {a : Atm} (h : a.2.length ≤ 9) : trA a = a := by
  unfold trA
  rw [List.take_of_length_le h]
theorem trA_len {a : Atm} (h : (trA a).2.length ≤ 3) : a.2.length ≤ 3 := by
  unfold trA at h
  simp only [List.length_take] at h
  omega
theorem map_trA {l : List Atm} (h : ∀ a ∈ l, a.2.length ≤ 9) : l.map trA = l := by
  conv => rhs; rw [← List.map_id l]
  exact List.map_congr_left fun a ha => trA_id (h a ha)
theorem trB_of {h : List Int} {b : List Atm} (hq : okQ h b = true) : trB b = b ∧ h.take 9 = h := by
  obtain ⟨h1, h2, h3⟩ := okQ_len hq
  have hb : ∀ a ∈ b, a.2.length ≤ 9 := fun a ha => by
    simp only [okQ, Bool.and_eq_true, List.all_eq_true] at hq
    have := (okA_iff.1 (hq.1.2 a ha)).2.2.2.1
    omega
  exact ⟨by unfold trB; rw [List.take_of_length_le (by omega), map_trA hb], List.take_of_length_le (by omega)⟩
theorem okQ_tr (h : List Int) (b : List Atm) : okQ (h.take 9) (trB b) = okQ h b := by
  rw [Bool.eq_iff_iff]
  constructor
  · intro hq
    have h0 := hq
    obtain ⟨h1, h2, h3⟩ := okQ_len hq
    have hbl : b.length ≤ 5 := by unfold trB at h2; simp at h2; omega
    have hhl : h.length ≤ 4 := by simp at h3; omega
    have hb : ∀ a ∈ b, a.2.length ≤ 9 := fun a ha => by
      simp only [okQ, Bool.and_eq_true, List.all_eq_true] at hq
      have hm : trA a ∈ trB b := List.mem_map_of_mem (by rw [List.take_of_length_le (by omega)]; exact ha)
      have := trA_len (okA_iff.1 (hq.1.2 _ hm)).2.2.2.1
      omega
    have e1 : trB b = b := by unfold trB; rw [List.take_of_length_le (by omega), map_trA hb]
    rwa [e1, List.take_of_length_le (by omega)] at h0
  · intro hq
    obtain ⟨e1, e2⟩ := trB_of hq
    rwa [e1, e2]
theorem ofS_c {w : World} {hv v : Value} {h : List Int} {l : List Atm} (hh : SlI w hv h) (hs : SlA w v l) : Calls Try.prog 7 #[.agg #[hv, v]] w fun e w' => ∃ hv' v', e = .returned (.agg #[hv', v']) ∧ SlI w' hv' (h.take 9) ∧ SlA w' v' (trB l) ∧ Grow w w' := by
  refine (of_c hh hs).mono ?_
  rintro e w' ⟨a, b, rfl, h1, h2, g, -⟩
  exact ⟨a, b, rfl, Own.slI h1, h2.slX, g⟩
end Go.Proofs.Ytmjpnfapjcfejaa
