/- The deletion of ears as a relation between its states; what is left is one atom exactly if all can be eliminated. Of no program. No condition. -/
import Derived.Test.YtleiddajojgmmaaDoorTb
namespace Go.Proofs.YtleiddajojgmmaaDoor
set_option linter.unusedVariables false

/-- A set of bits without one. -/
def clr (left i : Nat) : Nat := VC.nSub left (2 ^ i)
/-- From what is left, with the sets and the parents so far, to what is left at the end. -/
inductive EarsR (n : Nat) : Nat → List Nat → List Int → Nat → List Int → Prop
  | stop {left : Nat} {V : List Nat} {p : List Int} : pickN n left (cutK n left V n) n = none → EarsR n left V p left p
  | go {left : Nat} {V : List Nat} {p : List Int} {i k l2 : Nat} {p2 : List Int} : pickN n left (cutK n left V n) n = some (i, k) → EarsR n (clr left i) (cutK n left V n) (p.set i (k : Int)) l2 p2 → EarsR n left V p l2 p2
/-- The parents do not matter for what is left. -/
theorem EarsR.left {n left : Nat} {V : List Nat} {p : List Int} {l2 : Nat} {p2 : List Int} (h : EarsR n left V p l2 p2) : ∀ (q : List Int), ∃ q2, EarsR n left V q l2 q2 := by
  induction h with
  | stop h1 => exact fun q => ⟨q, .stop h1⟩
  | go h1 _ ih =>
    intro q
    obtain ⟨q2, h2⟩ := ih (q.set _ _)
    exact ⟨q2, .go h1 h2⟩
def InS (n left : Nat) : Nat → Prop := fun j => j < n ∧ left.testBit j = true
theorem earT_iff {left : Nat} {V : List Nat} {i k : Nat} : earT left V i k = true ↔ k ≠ i ∧ left.testBit i = true ∧ left.testBit k = true ∧ ∀ x, (V.getD i 0).testBit x = true → (V.getD k 0).testBit x = true := by
  unfold earT
  simp only [Bool.and_eq_true, decide_eq_true_eq, sub_bits, and_assoc]
theorem clr_bit {left i j : Nat} : (clr left i).testBit j = true ↔ left.testBit j = true ∧ j ≠ i := by
  unfold clr
  rw [VC.nSub_bit, Nat.testBit_two_pow]
  simp only [Bool.and_eq_true, Bool.not_eq_true', decide_eq_false_iff_not]
  exact ⟨fun h => ⟨h.1, fun e => h.2 e.symm⟩, fun h => ⟨h.1, fun e => h.2 e.symm⟩⟩
end Go.Proofs.YtleiddajojgmmaaDoor

/- The parents that the deletion of ears leaves: a join tree. Of no program. No condition. -/
namespace Go.Proofs.YtleiddajojgmmaaDoor
set_option linter.unusedVariables false

def cnt (n left : Nat) : Nat := ((List.range n).filter fun i => left.testBit i).length
theorem cnt_clr {n left i : Nat} (h : InS n left i) : cnt n (clr left i) + 1 = cnt n left := by
  have e : ((List.range n).filter fun j => (clr left i).testBit j) = ((List.range n).filter fun j => left.testBit j).filter fun j => decide (j ≠ i) := by
    rw [List.filter_filter]
    refine List.filter_congr fun j _ => ?_
    rw [Bool.eq_iff_iff, clr_bit]
    simp [and_comm]
  have hm : i ∈ (List.range n).filter fun j => left.testBit j := List.mem_filter.2 ⟨List.mem_range.2 h.1, h.2⟩
  have hn : ((List.range n).filter fun j => left.testBit j).Nodup := List.nodup_range.filter _
  have e2 : (((List.range n).filter fun j => left.testBit j).filter fun j => decide (j ≠ i)) = ((List.range n).filter fun j => left.testBit j).erase i := by
    rw [hn.erase_eq_filter]
    refine List.filter_congr fun j _ => ?_
    simp [bne, Bool.beq_eq_decide_eq]
  unfold cnt
  rw [e, e2, List.length_erase_of_mem hm]
  have := List.length_pos_of_mem hm
  omega
theorem getD_setI {l : List Int} {k : Nat} (hk : k < l.length) (y : Int) (i : Nat) : (l.set k y).getD i 0 = if i = k then y else l.getD i 0 := by
  simp only [List.getD, List.getElem?_set]
  by_cases h : k = i
  · subst h
    rw [if_pos rfl, if_pos rfl, if_pos hk]
    rfl
  · rw [if_neg h, if_neg (Ne.symm h)]
end Go.Proofs.YtleiddajojgmmaaDoor
