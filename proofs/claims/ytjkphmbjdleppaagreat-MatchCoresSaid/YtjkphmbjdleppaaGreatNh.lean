/- Homomorphisms composed; the identity. Of no program. No condition. -/
import Derived.Test.YtjkphmbjdleppaaGreatNd
namespace Go.Proofs.YtjkphmbjdleppaaGreat
open Go Go.RowKit VC
set_option linter.unusedSimpArgs false
set_option linter.unusedVariables false

theorem bit_inB {b : List Atm} {a : Atm} {x : Int} (ha : a ∈ b) (hx : x ∈ a.2) (h0 : 0 ≤ x) : (varsB b).testBit x.toNat = true := varsB_bit.2 (List.mem_flatMap.2 ⟨a, ha, by rwa [Int.toNat_of_nonneg h0]⟩)
def idH (b : List Atm) : List Int := (List.range 8).map fun i => if (varsB b).testBit i = true then (i : Int) else 99
theorem idH_get {b : List Atm} {i : Nat} (hi : i < 8) : (idH b).getD i 0 = if (varsB b).testBit i = true then (i : Int) else 99 := by
  unfold idH
  rw [List.getD, List.getElem?_map, List.getElem?_range hi]
  rfl
theorem hom_id {hp : List Int} {bp bq : List Atm} (okp : okQ hp bp = true) (hs : ∀ a ∈ bp, a ∈ bq) : IsHom hp bp hp bq (idH bp) := by
  have hT := okB_term okp
  refine ⟨by simp [idH], fun i hi => ?_, fun a ha => ?_, fun k hk => ?_⟩
  · rw [idH_get hi]
    split
    · omega
    · rfl
  · have : imgH (idH bp) a = a := by
      unfold imgH
      have : a.2.map (imgT (idH bp)) = a.2.map id := List.map_congr_left fun x hx => by
        have ht := hT a ha x hx
        unfold imgT
        split
        · rename_i h0
          rw [idH_get (by omega), if_pos (bit_inB ha hx h0)]
          simp only [id]
          omega
        · rfl
      rw [this, List.map_id]
    rw [this]
    exact hs a ha
  · have h1 := okQ_headIn okp _ (List.getElem_mem hk)
    rw [idH_get (by omega), if_pos h1.2]
    have e : hp.getD k 0 = hp[k] := by simp [List.getD, hk]
    rw [e]
    omega
end Go.Proofs.YtjkphmbjdleppaaGreat
