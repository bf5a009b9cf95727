/- Independent sets, the greatest of a kind, the graph with all other edges: the plain laws. No program, no condition. -/
import Derived.Test.YtmpjanpmkmlloaaDoorGo
namespace Go.Proofs.YtmpjanpmkmlloaaDoor
open Go Go.RowKit VC
set_option linter.unusedSimpArgs false
set_option linter.unusedVariables false

/-- No two nodes are neighbours. -/
def free (N : List Nat) (s : Nat) : Bool := (List.range 12).all fun i => !s.testBit i || s &&& nb N i == 0
/-- The greatest of the sets below k that are right, and of these the least. -/
def bestN (q : Nat → Bool) : Nat → Nat
  | 0 => 0
  | k + 1 => if pc (bestN q k) < pc k && q k then k else bestN q k
theorem bestN_lt {q : Nat → Bool} : ∀ {k : Nat}, 0 < k → bestN q k < k
  | 0, h => absurd h (Nat.lt_irrefl 0)
  | k + 1, _ => by
    unfold bestN
    split
    · omega
    · rcases Nat.eq_zero_or_pos k with rfl | h
      · simp [bestN]
      · have := bestN_lt (q := q) h; omega
theorem bestN_le {q : Nat → Bool} (k : Nat) : bestN q k ≤ k := by
  rcases Nat.eq_zero_or_pos k with rfl | h
  · simp [bestN]
  · have := bestN_lt (q := q) h; omega
theorem bestN_congr {p q : Nat → Bool} : ∀ {k : Nat}, (∀ s, s < k → p s = q s) → bestN p k = bestN q k
  | 0, _ => rfl
  | k + 1, h => by
    unfold bestN
    rw [bestN_congr (k := k) fun s hs => h s (by omega), h k (by omega)]
theorem bestN_max {q : Nat → Bool} : ∀ {k s : Nat}, s < k → q s = true → pc s ≤ pc (bestN q k)
  | k + 1, s, hs, hq => by
    have ih : s < k → pc s ≤ pc (bestN q k) := fun h => bestN_max h hq
    conv => rhs; unfold bestN
    split
    · rename_i h
      simp only [Bool.and_eq_true, decide_eq_true_eq] at h
      by_cases e : s = k
      · subst e; omega
      · have := ih (by omega); omega
    · rename_i h
      by_cases e : s = k
      · subst e; simp [hq] at h; omega
      · exact ih (by omega)
theorem bestN_ok {q : Nat → Bool} (h0 : q 0 = true) : ∀ k, q (bestN q k) = true
  | 0 => h0
  | k + 1 => by
    unfold bestN
    split
    · rename_i h
      simp only [Bool.and_eq_true] at h
      exact h.2
    · exact bestN_ok h0 k
theorem bestN_zero (q : Nat → Bool) : bestN q 1 = 0 := by simp [bestN]
theorem and_zero {a b : Nat} : a &&& b = 0 ↔ ∀ i, a.testBit i = true → b.testBit i = false := by
  rw [set_zero]
  constructor
  · intro h i hi
    have := h i
    rw [Nat.testBit_and, hi] at this
    simpa using this
  · intro h i
    rw [Nat.testBit_and]
    cases hi : a.testBit i with
    | false => rfl
    | true => simp [h i hi]
theorem free_iff {N : List Nat} {s : Nat} (hs : s < 4096) : free N s = true ↔ ∀ i, s.testBit i = true → ∀ j, s.testBit j = true → (nb N i).testBit j = false := by
  simp only [free, List.all_eq_true, List.mem_range, Bool.or_eq_true, Bool.not_eq_true', beq_iff_eq, and_zero]
  constructor
  · intro h i hi
    rcases h i (bit_lt (n := 12) hs hi) with h1 | h1
    · rw [hi] at h1; cases h1
    · exact h1
  · intro h i _
    cases hi : s.testBit i with
    | false => exact .inl rfl
    | true => exact .inr (h i hi)
/-- The graph with all other edges. -/
def coN (N : List Nat) : List Nat := (List.range N.length).map fun i => nSub (nSub (al N) (nb N i)) (2 ^ i)
@[simp] theorem coN_len (N : List Nat) : (coN N).length = N.length := by simp [coN]
theorem nb_co {N : List Nat} {i : Nat} (h : i < N.length) : nb (coN N) i = nSub (nSub (al N) (nb N i)) (2 ^ i) := by simp [nb, coN, h]
theorem co_bit {N : List Nat} {i j : Nat} (hi : i < N.length) : (nb (coN N) i).testBit j = (decide (j < N.length) && !(nb N i).testBit j && !decide (i = j)) := by
  rw [nb_co hi, nSub_bit, nSub_bit, al_bit, two_bit]
theorem VN.co {N : List Nat} (h : VN N) : VN (coN N) := by
  refine ⟨by simpa using h.one, by simpa using h.le, fun i hi => ?_, fun i hi => ?_, fun i j hi hj => ?_⟩
  · have hi' : i < N.length := by simpa using hi
    rw [nb_get hi, nb_co hi', coN_len]
    exact nSub_lt (nSub_lt (al_lt N))
  · have hi' : i < N.length := by simpa using hi
    rw [nb_get hi, co_bit hi']; simp
  · have hi' : i < N.length := by simpa using hi
    have hj' : j < N.length := by simpa using hj
    rw [nb_get hi, nb_get hj, co_bit hi', co_bit hj', h.sym' i j]
    by_cases e : i = j
    · subst e; simp
    · have : ¬ j = i := fun x => e x.symm
      simp [e, this, hi', hj']
theorem co_free {N : List Nat} (hN : VN N) {s : Nat} (hs : s < 2 ^ N.length) : free (coN N) s = cliq N s := by
  have h4 : s < 4096 := Nat.lt_of_lt_of_le hs hN.pow
  rw [Bool.eq_iff_iff, free_iff h4, cliq_iff h4]
  constructor
  · intro h i hi j hj hne
    have := h i hi j hj
    have hi' := bit_lt hs hi
    have hj' := bit_lt hs hj
    rw [co_bit hi'] at this
    have hne' : ¬ i = j := fun e => hne e.symm
    simpa [hj', hne'] using this
  · intro h i hi j hj
    have hi' := bit_lt hs hi
    rw [co_bit hi']
    by_cases e : i = j
    · simp [e]
    · rw [h i hi j hj fun x => e x.symm]; simp
theorem co_cliq {N : List Nat} (hN : VN N) {s : Nat} (hs : s < 2 ^ N.length) : cliq (coN N) s = free N s := by
  have h4 : s < 4096 := Nat.lt_of_lt_of_le hs hN.pow
  rw [Bool.eq_iff_iff, free_iff h4, cliq_iff h4]
  constructor
  · intro h i hi j hj
    have hi' := bit_lt hs hi
    have hj' := bit_lt hs hj
    by_cases e : j = i
    · subst e; exact hN.irr' j
    · have := h i hi j hj e
      rw [co_bit hi'] at this
      simp at this
      exact this.1.2
  · intro h i hi j hj hne
    have hi' := bit_lt hs hi
    have hj' := bit_lt hs hj
    rw [co_bit hi', h i hi j hj]
    have hne' : ¬ i = j := fun e => hne e.symm
    simp [hj', hne']
end Go.Proofs.YtmpjanpmkmlloaaDoor
