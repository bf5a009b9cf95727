/- The frozen query: it is among the results of another one exactly if there is a homomorphism. Of no program. No condition. -/
import Derived.Test.YtjkphmbjdleppaaNe
namespace Go.Proofs.Ytjkphmbjdleppaa
open Go Go.RowKit VC
set_option linter.unusedSimpArgs false
set_option linter.unusedVariables false

def unfrz (v : Int) : Int := if v < 10 then 0 - v else v - 10
theorem unfrz_frz {x : Int} (hx : -9 ≤ x ∧ x ≤ 7) : unfrz (frz x) = x := by
  unfold unfrz frz
  split <;> split <;> omega
theorem frz_rng {x : Int} (hx : -9 ≤ x ∧ x ≤ 7) : 1 ≤ frz x ∧ frz x ≤ 17 := by
  unfold frz
  split <;> omega
theorem okFs_frz {h : List Int} {b : List Atm} (ok : okQ h b = true) : okFs (b.map frzA) = true := by
  have hbl := okQ_len ok
  have oa : ∀ a ∈ b, okA a = true := fun a ha => by
    simp only [okQ, Bool.and_eq_true, List.all_eq_true] at ok
    exact ok.1.2 a ha
  simp only [okFs, Bool.and_eq_true, List.all_eq_true, decide_eq_true_eq, List.length_map]
  refine ⟨by omega, fun f hf => ?_⟩
  obtain ⟨a, ha, rfl⟩ := List.mem_map.1 hf
  obtain ⟨h1, h2, h3, h4, h5⟩ := okA_iff.1 (oa a ha)
  refine okF_iff.2 ⟨h1, h2, by simpa [frzA] using h3, by simpa [frzA] using h4, fun x hx => ?_⟩
  obtain ⟨z, hz, rfl⟩ := List.mem_map.1 hx
  have := frz_rng (h5 z hz)
  omega
theorem srt_le (l : List Atm) : (srtF l).length ≤ l.length := sub_len (srtF_nodup l) fun x hx => (mem_srt key_A).1 hx
theorem step_len (fs : List Atm) (a : Atm) : ∀ ms : List Vals, (stepM fs ms a).length ≤ ms.length * fs.length
  | [] => by simp [stepM]
  | m :: r => by
    have h1 := step_len fs a r
    have h2 : (fs.filterMap (fitA m a)).length ≤ fs.length := List.length_filterMap_le _ _
    have e : stepM fs (m :: r) a = fs.filterMap (fitA m a) ++ stepM fs r a := rfl
    rw [e, List.length_append, List.length_cons, Nat.succ_mul]
    omega
theorem fold_len {fs : List Atm} (hf : fs.length ≤ 5) : ∀ (b : List Atm) (ms : List Vals), (b.foldl (stepM fs) ms).length ≤ ms.length * 5 ^ b.length
  | [], ms => by simp
  | a :: r, ms => by
    have h1 := fold_len hf r (stepM fs ms a)
    have h2 := step_len fs a ms
    have h3 : ms.length * fs.length ≤ ms.length * 5 := Nat.mul_le_mul_left _ hf
    have h4 : (stepM fs ms a).length * 5 ^ r.length ≤ (ms.length * 5) * 5 ^ r.length := Nat.mul_le_mul_right _ (by omega)
    rw [List.foldl_cons, List.length_cons, Nat.pow_succ, Nat.mul_comm (5 ^ r.length) 5, ← Nat.mul_assoc]
    omega
theorem frozen_ok {hp hq : List Int} {bp bq : List Atm} (okp : okQ hp bp = true) (okq : okQ hq bq = true) : (resO hq bq (bp.map frzA)).1 = 0 ∧ (resO hq bq (bp.map frzA)).2 = rowsOf hq (allM (srtF (bp.map frzA)) bq) := by
  have hl : (srtF (bp.map frzA)).length ≤ 5 := by
    have := okQ_len okp
    have h2 := srt_le (bp.map frzA)
    rw [List.length_map] at h2
    omega
  have hr : runF (bp.map frzA) bq = some (allM (srtF (bp.map frzA)) bq) := runF_some.2 ⟨rfl, fun k h1 h2 => by
    have h3 := fold_len hl (bq.take k) [zeroV]
    have h4 := okQ_len okq
    have h5 : (bq.take k).length ≤ 5 := by rw [List.length_take]; omega
    have h6 : 5 ^ (bq.take k).length ≤ 5 ^ 5 := Nat.pow_le_pow_right (by omega) h5
    have h7 : (allM (srtF (bp.map frzA)) (bq.take k)).length ≤ [zeroV].length * 5 ^ (bq.take k).length := h3
    rw [List.length_singleton, Nat.one_mul] at h7
    have h8 : (5 : Nat) ^ 5 = 3125 := by decide
    omega⟩
  unfold resO
  rw [okq, okFs_frz okp, hr]
  exact ⟨rfl, rfl⟩
def idM (b : List Atm) : Vals := (List.range 8).map fun i => if (varsB b).testBit i = true then (10 : Int) + (i : Int) else 0
theorem idM_get {b : List Atm} {i : Nat} (hi : i < 8) : (idM b).getD i 0 = if (varsB b).testBit i = true then (10 : Int) + (i : Int) else 0 := by
  unfold idM
  rw [List.getD, List.getElem?_map, List.getElem?_range hi]
  rfl
def homM (b : List Atm) (m : Vals) : List Int := (List.range 8).map fun i => if (varsB b).testBit i = true then unfrz (m.getD i 0) else 99
theorem homM_get {b : List Atm} {m : Vals} {i : Nat} (hi : i < 8) : (homM b m).getD i 0 = if (varsB b).testBit i = true then unfrz (m.getD i 0) else 99 := by
  unfold homM
  rw [List.getD, List.getElem?_map, List.getElem?_range hi]
  rfl
theorem bit_in {b : List Atm} {a : Atm} {x : Int} (ha : a ∈ b) (hx : x ∈ a.2) (h0 : 0 ≤ x) : (varsB b).testBit x.toNat = true := varsB_bit.2 (List.mem_flatMap.2 ⟨a, ha, by rwa [Int.toNat_of_nonneg h0]⟩)
/-- The frozen query is its own result. -/
theorem self_row {h : List Int} {b : List Atm} (ok : okQ h b = true) : h.map frz ∈ rowsOf h (allM (srtF (b.map frzA)) b) := by
  have hT := okB_term ok
  have val : ∀ x : Int, x ≤ 7 → (0 ≤ x → (varsB b).testBit x.toNat = true) → ofV (idM b) x = frz x := fun x h7 hb => by
    unfold ofV frz
    split
    · omega
    · rw [idM_get (by omega), if_pos (hb (by omega))]
      omega
  refine (mem_rows (okF_pos (okFs_frz ok)) hT).2 ⟨idM b, ⟨by simp [idM], fun i hi => ?_, fun a ha => ?_⟩, ?_⟩
  · rw [idM_get hi, ← varsB_bit]
    split
    · rename_i hb
      exact ⟨fun _ => hb, fun _ => by omega⟩
    · rename_i hb
      exact ⟨fun h => absurd rfl h, fun h => absurd h hb⟩
  · have : imgA (idM b) a = frzA a := by
      unfold imgA frzA
      congr 1
      exact List.map_congr_left fun x hx => val x (hT a ha x hx).2 fun h0 => bit_in ha hx h0
    rw [this]
    exact List.mem_map.2 ⟨a, ha, rfl⟩
  · refine List.map_congr_left fun x hx => ?_
    have := okQ_headIn ok x hx
    exact (val x this.1.2 fun _ => this.2).symm
theorem frozen_iff {hp hq : List Int} {bp bq : List Atm} (okp : okQ hp bp = true) (okq : okQ hq bq = true) (hlen : hp.length = hq.length) : hp.map frz ∈ rowsOf hq (allM (srtF (bp.map frzA)) bq) ↔ ∃ h, IsHom hq bq hp bp h := by
  have hpos := okF_pos (okFs_frz okp)
  have hTq := okB_term okq
  have hTp := okB_term okp
  constructor
  · intro hy
    obtain ⟨m, hm, he⟩ := (mem_rows hpos hTq).1 hy
    have pre : ∀ a ∈ bq, ∃ c ∈ bp, c.1 = a.1 ∧ c.2.map frz = a.2.map (ofV m) := fun a ha => by
      obtain ⟨c, hc, e⟩ := List.mem_map.1 (hm.hit a ha)
      unfold frzA imgA at e
      rw [Prod.mk.injEq] at e
      exact ⟨c, hc, e.1, e.2⟩
    have img : ∀ a ∈ bq, ∀ x ∈ a.2, imgT (homM bq m) x = unfrz (ofV m x) := fun a ha x hx => by
      have ht := hTq a ha x hx
      unfold imgT ofV
      by_cases h0 : 0 ≤ x
      · rw [if_pos h0, if_neg (by omega), homM_get (by omega), if_pos (bit_in ha hx h0)]
      · rw [if_neg h0, if_pos (by omega), unfrz, if_pos (by omega)]
        omega
    have atm : ∀ a ∈ bq, ∃ c ∈ bp, c.1 = a.1 ∧ a.2.map (imgT (homM bq m)) = c.2 := fun a ha => by
      obtain ⟨c, hc, e1, e2⟩ := pre a ha
      refine ⟨c, hc, e1, ?_⟩
      have : a.2.map (imgT (homM bq m)) = (a.2.map (ofV m)).map unfrz := by
        rw [List.map_map]
        exact List.map_congr_left fun x hx => img a ha x hx
      rw [this, ← e2, List.map_map]
      have : c.2.map (unfrz ∘ frz) = c.2.map id := List.map_congr_left fun x hx => unfrz_frz (hTp c hc x hx)
      rw [this, List.map_id]
    refine ⟨homM bq m, by simp [homM], fun i hi => ?_, fun a ha => ?_, fun k hk => ?_⟩
    · rw [homM_get hi]
      split
      · rename_i hb
        obtain ⟨a, ha, hia⟩ := List.mem_flatMap.1 (varsB_bit.1 hb)
        obtain ⟨c, hc, -, e2⟩ := atm a ha
        have h2 : imgT (homM bq m) (i : Int) ∈ c.2 := by
          rw [← e2]
          exact List.mem_map.2 ⟨_, hia, rfl⟩
        have h3 : imgT (homM bq m) (i : Int) = unfrz (m.getD i 0) := by
          rw [imgT, if_pos (by omega), Int.toNat_natCast, homM_get hi, if_pos hb]
        rw [← h3]
        exact hTp c hc _ h2
      · rfl
    · obtain ⟨c, hc, e1, e2⟩ := atm a ha
      have : imgH (homM bq m) a = c := Prod.ext e1.symm e2
      rw [this]
      exact hc
    · have h1 := okQ_headIn okq _ (List.getElem_mem hk)
      have hkp : k < hp.length := by omega
      have h2 := okQ_head okp _ (List.getElem_mem hkp)
      rw [homM_get (by omega), if_pos h1.2]
      have h3 : (hp.map frz)[k]? = (hq.map (ofV m))[k]? := by rw [he]
      simp only [List.getElem?_map, List.getElem?_eq_getElem hk, List.getElem?_eq_getElem hkp, Option.map_some, Option.some.injEq] at h3
      rw [ofV, if_neg (by omega)] at h3
      rw [← h3, unfrz_frz (by omega)]
      simp [List.getD, hkp]
  · rintro ⟨h, hH⟩
    exact hom_rows hpos okq okp hlen.symm hH (self_row okp)
end Go.Proofs.Ytjkphmbjdleppaa
