/- The greatest cliques, in rising order. No program, no condition. -/
import Derived.Test.YtmpjanpmkmlloaaDoorGo
namespace Go.Proofs.YtmpjanpmkmlloaaDoor
open Go Go.RowKit VC
set_option linter.unusedSimpArgs false
set_option linter.unusedVariables false

/-- A clique that no node can join. -/
def maxq (N : List Nat) (s : Nat) : Bool := cliq N s && (els (nSub (al N) s)).all fun i => !decide (nSub s (nb N i) = 0)
def mclT (N : List Nat) (k : Nat) : List Nat := (List.range k).filter fun s => decide (1 ≤ s) && maxq N s
def mcl (N : List Nat) : List Nat := mclT N (2 ^ N.length)
theorem mclT_succ (N : List Nat) {k : Nat} (hk : 1 ≤ k) : mclT N (k + 1) = mclT N k ++ (if maxq N k then [k] else []) := by
  unfold mclT
  rw [List.range_succ, List.filter_append]
  congr 1
  rw [List.filter_cons]
  have : decide (1 ≤ k) = true := by simpa using hk
  rw [this, Bool.true_and]
  cases maxq N k <;> simp
theorem mclT_one (N : List Nat) : mclT N 1 = [] := by simp [mclT]
theorem mclT_len (N : List Nat) (k : Nat) : (mclT N k).length ≤ k := by
  unfold mclT
  exact Nat.le_trans (List.length_filter_le _ _) (by simp)
theorem mem_mcl {N : List Nat} {s : Nat} : s ∈ mcl N ↔ s < 2 ^ N.length ∧ 1 ≤ s ∧ maxq N s = true := by
  unfold mcl mclT
  rw [List.mem_filter, List.mem_range]; simp
theorem sub_zero {s t : Nat} : nSub s t = 0 ↔ ∀ j, s.testBit j = true → t.testBit j = true := by
  rw [set_zero]
  constructor
  · intro h j hj
    have := h j
    rw [nSub_bit, hj] at this
    simpa using this
  · intro h j
    rw [nSub_bit]
    cases hj : s.testBit j with
    | false => rfl
    | true => simp [h j hj]
/-- A node joins a clique exactly if all of the clique are its neighbours. -/
theorem cliq_join {N : List Nat} (hN : VN N) {s i : Nat} (hs : s < 2 ^ N.length) (hi : i < N.length) (hq : cliq N s = true) (hb : s.testBit i = false) : cliq N (s ||| 2 ^ i) = decide (nSub s (nb N i) = 0) := by
  have h4 : s < 4096 := Nat.lt_of_lt_of_le hs hN.pow
  have hlt : s ||| 2 ^ i < 4096 := Nat.lt_of_lt_of_le (Nat.or_lt_two_pow hs (Nat.pow_lt_pow_right (by omega) hi)) hN.pow
  rw [Bool.eq_iff_iff, cliq_iff hlt, decide_eq_true_eq, sub_zero]
  rw [cliq_iff h4] at hq
  have bit : ∀ j, (s ||| 2 ^ i).testBit j = true ↔ s.testBit j = true ∨ j = i := fun j => by
    rw [Nat.testBit_or, two_bit, Bool.or_eq_true, decide_eq_true_eq]
    constructor
    · rintro (h | h)
      · exact .inl h
      · exact .inr h.symm
    · rintro (h | h)
      · exact .inl h
      · exact .inr h.symm
  constructor
  · intro h j hj
    have hne : j ≠ i := fun e => by subst e; rw [hb] at hj; cases hj
    exact h i ((bit i).2 (.inr rfl)) j ((bit j).2 (.inl hj)) hne
  · intro h a ha b hb' hne
    rcases (bit a).1 ha with ha1 | ha1
    · rcases (bit b).1 hb' with hb1 | hb1
      · exact hq a ha1 b hb1 hne
      · rw [hN.sym', hb1]; exact h a ha1
    · rcases (bit b).1 hb' with hb1 | hb1
      · rw [ha1]; exact h b hb1
      · exact absurd (hb1.trans ha1.symm) hne
theorem maxq_ref {N : List Nat} (hN : VN N) {s : Nat} (hs : s < 2 ^ N.length) : maxq N s = (cliq N s && (List.range N.length).all fun i => s.testBit i || !cliq N (s ||| 2 ^ i)) := by
  unfold maxq
  cases hq : cliq N s with
  | false => rfl
  | true =>
    have h12 := hN.le
    rw [Bool.true_and, Bool.true_and, Bool.eq_iff_iff]
    simp only [List.all_eq_true, mem_els, List.mem_range, Bool.or_eq_true, Bool.not_eq_true', decide_eq_false_iff_not]
    constructor
    · intro h i hi
      cases hb : s.testBit i with
      | true => exact .inl rfl
      | false =>
        have := h i ⟨by omega, by rw [nSub_bit, al_bit, hb]; simpa using hi⟩
        exact .inr (by rw [cliq_join hN hs hi hq hb]; simpa using this)
    · rintro h i ⟨hi, hb⟩
      rw [nSub_bit, al_bit, Bool.and_eq_true, Bool.not_eq_true', decide_eq_true_eq] at hb
      rcases h i hb.1 with h1 | h1
      · rw [hb.2] at h1; cases h1
      · rw [cliq_join hN hs hb.1 hq hb.2] at h1
        simpa using h1
end Go.Proofs.YtmpjanpmkmlloaaDoor
