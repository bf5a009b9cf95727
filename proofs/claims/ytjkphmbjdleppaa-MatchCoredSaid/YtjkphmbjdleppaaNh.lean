/- Homomorphisms composed; the identity. Of no program. No condition. -/
import Derived.Test.YtjkphmbjdleppaaNd
namespace Go.Proofs.Ytjkphmbjdleppaa
open Go Go.RowKit VC
set_option linter.unusedSimpArgs false
set_option linter.unusedVariables false

theorem bit_inB {b : List Atm} {a : Atm} {x : Int} (ha : a ∈ b) (hx : x ∈ a.2) (h0 : 0 ≤ x) : (varsB b).testBit x.toNat = true := varsB_bit.2 (List.mem_flatMap.2 ⟨a, ha, by rwa [Int.toNat_of_nonneg h0]⟩)
/-- Where a first homomorphism's term goes by a second one. -/
def thn (g : List Int) (x : Int) : Int := if 0 ≤ x ∧ x < 8 then g.getD x.toNat 0 else x
theorem getD_map8 {l : List Int} {f : Int → Int} {i : Nat} (hi : i < l.length) : (l.map f).getD i 0 = f (l.getD i 0) := by
  simp [List.getD, hi]
theorem hom_comp {hp hq hr g1 g2 : List Int} {bp bq br : List Atm} (okp : okQ hp bp = true) (okq : okQ hq bq = true) (hlen : hp.length = hq.length) (h1 : IsHom hp bp hq bq g1) (h2 : IsHom hq bq hr br g2) : IsHom hp bp hr br (g1.map (thn g2)) := by
  have hT := okB_term okp
  have get : ∀ i, i < 8 → (g1.map (thn g2)).getD i 0 = thn g2 (g1.getD i 0) := fun i hi => getD_map8 (by rw [h1.len]; exact hi)
  refine ⟨by rw [List.length_map, h1.len], fun i hi => ?_, fun a ha => ?_, fun k hk => ?_⟩
  · have h3 := h1.occ i hi
    rw [get i hi]
    split
    · rename_i hb
      rw [if_pos hb] at h3
      unfold thn
      split
      · rename_i h0
        obtain ⟨a, ha, hia⟩ := List.mem_flatMap.1 (varsB_bit.1 hb)
        have h4 : g1.getD i 0 ∈ (imgH g1 a).2 := List.mem_map.2 ⟨(i : Int), hia, by rw [imgT, if_pos (by omega), Int.toNat_natCast]⟩
        have h5 := h2.occ (g1.getD i 0).toNat (by omega)
        rwa [if_pos (bit_inB (h1.atoms a ha) h4 h0.1)] at h5
      · exact h3
    · rename_i hb
      rw [if_neg hb] at h3
      rw [h3]
      rfl
  · have : imgH (g1.map (thn g2)) a = imgH g2 (imgH g1 a) := by
      unfold imgH
      simp only [List.map_map]
      congr 1
      refine List.map_congr_left fun x hx => ?_
      have ht := hT a ha x hx
      simp only [Function.comp]
      by_cases h0 : 0 ≤ x
      · have h3 := h1.occ x.toNat (by omega)
        rw [if_pos (bit_inB ha hx h0)] at h3
        rw [show imgT (g1.map (thn g2)) x = thn g2 (g1.getD x.toNat 0) by rw [imgT, if_pos h0, get _ (by omega)], show imgT g1 x = g1.getD x.toNat 0 by rw [imgT, if_pos h0]]
        unfold thn imgT
        by_cases h4 : 0 ≤ g1.getD x.toNat 0
        · rw [if_pos ⟨h4, by omega⟩, if_pos h4]
        · rw [if_neg (fun h => h4 h.1), if_neg h4]
      · unfold imgT
        rw [if_neg h0, if_neg h0, if_neg h0]
    rw [this]
    exact h2.atoms _ (h1.atoms a ha)
  · have hp1 := okQ_headIn okp _ (List.getElem_mem hk)
    have hkq : k < hq.length := by omega
    have hq1 := okQ_headIn okq _ (List.getElem_mem hkq)
    have e : hq.getD k 0 = hq[k] := by simp [List.getD, hkq]
    rw [get _ (by omega), h1.head k hk, e, thn, if_pos (by omega)]
    exact h2.head k hkq
def idH (b : List Atm) : List Int := (List.range 8).map fun i => if (varsB b).testBit i = true then (i : Int) else 99
theorem idH_get {b : List Atm} {i : Nat} (hi : i < 8) : (idH b).getD i 0 = if (varsB b).testBit i = true then (i : Int) else 99 := by
  unfold idH
  rw [List.getD, List.getElem?_map, List.getElem?_range hi]
  rfl
theorem hom_id {hp : List Int} {bp bq : List Atm} (okp : okQ hp bp = true) (hs : ∀ a ∈ bp, a ∈ bq) : IsHom hp bp hp bq (idH bp) := by
  have hT := okB_term okp
  refine ⟨by simp [idH], fun i hi => ?_, fun a ha => ?_, fun k hk => ?_⟩
  · rw [idH_get hi]
    split
    · omega
    · rfl
  · have : imgH (idH bp) a = a := by
      unfold imgH
      have : a.2.map (imgT (idH bp)) = a.2.map id := List.map_congr_left fun x hx => by
        have ht := hT a ha x hx
        unfold imgT
        split
        · rename_i h0
          rw [idH_get (by omega), if_pos (bit_inB ha hx h0)]
          simp only [id]
          omega
        · rfl
      rw [this, List.map_id]
    rw [this]
    exact hs a ha
  · have h1 := okQ_headIn okp _ (List.getElem_mem hk)
    rw [idH_get (by omega), if_pos h1.2]
    have e : hp.getD k 0 = hp[k] := by simp [List.getD, hk]
    rw [e]
    omega
end Go.Proofs.Ytjkphmbjdleppaa
