/- The parents that the deletion of ears leaves: a join tree. Of no program. No condition. -/
import Derived.Test.YtmjpnfapjcfejaaTc
namespace Go.Proofs.Ytmjpnfapjcfejaa
set_option linter.unusedVariables false

def cnt (n left : Nat) : Nat := ((List.range n).filter fun i => left.testBit i).length
theorem cnt_clr {n left i : Nat} (h : InS n left i) : cnt n (clr left i) + 1 = cnt n left := by
  have e : ((List.range n).filter fun j => (clr left i).testBit j) = ((List.range n).filter fun j => left.testBit j).filter fun j => decide (j ≠ i) := by
    rw [List.filter_filter]
    refine List.filter_congr fun j _ => ?_
    rw [Bool.eq_iff_iff, clr_bit]
    simp [and_comm]
  have hm : i ∈ (List.range n).filter fun j => left.testBit j := List.mem_filter.2 ⟨List.mem_range.2 h.1, h.2⟩
  have hn : ((List.range n).filter fun j => left.testBit j).Nodup := List.nodup_range.filter _
  have e2 : (((List.range n).filter fun j => left.testBit j).filter fun j => decide (j ≠ i)) = ((List.range n).filter fun j => left.testBit j).erase i := by
    rw [hn.erase_eq_filter]
    refine List.filter_congr fun j _ => ?_
    simp [bne, Bool.beq_eq_decide_eq]
  unfold cnt
  rw [e, e2, List.length_erase_of_mem hm]
  have := List.length_pos_of_mem hm
  omega
theorem getD_setI {l : List Int} {k : Nat} (hk : k < l.length) (y : Int) (i : Nat) : (l.set k y).getD i 0 = if i = k then y else l.getD i 0 := by
  simp only [List.getD, List.getElem?_set]
  by_cases h : k = i
  · subst h
    rw [if_pos rfl, if_pos rfl, if_pos hk]
    rfl
  · rw [if_neg h, if_neg (Ne.symm h)]
end Go.Proofs.Ytmjpnfapjcfejaa
