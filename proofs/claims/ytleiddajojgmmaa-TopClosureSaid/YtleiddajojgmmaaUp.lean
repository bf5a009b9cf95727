/- Pure: what the rules derive that have a relation for each attribute is the closure by the dependencies. No condition. -/
import Derived.Test.YtleiddajojgmmaaUs
import Derived.Test.YtleiddajojgmmaaTc
namespace Go.Proofs.Ytleiddajojgmmaa
open Go Go.RowKit VC
set_option linter.unusedSimpArgs false
set_option linter.unusedVariables false

/-- The attributes below n of a set. -/
def bodyN (n f : Nat) : List Nat := (List.range n).filter f.testBit
theorem mem_bodyN {n f i : Nat} : i ∈ bodyN n f ↔ i < n ∧ f.testBit i = true := by simp [bodyN]
theorem bodyN_succ (n f : Nat) : bodyN (n + 1) f = bodyN n f ++ (if f.testBit n = true then [n] else []) := by
  unfold bodyN
  rw [List.range_succ, List.filter_append]
  congr 1
  by_cases h : f.testBit n = true <;> simp [h]
theorem bodyN_len (n f : Nat) : (bodyN n f).length ≤ n := by
  have := List.length_filter_le f.testBit (List.range n)
  rw [List.length_range] at this
  exact this
/-- The greatest attribute below n of a set; -1: there is none. -/
def toF (t : Nat) : Nat → Int
  | 0 => -1
  | k + 1 => if t.testBit k = true then (k : Int) else toF t k
theorem toF_lt (t : Nat) : ∀ k, toF t k < (k : Int)
  | 0 => by simp [toF]
  | k + 1 => by
    unfold toF
    split
    · omega
    · have := toF_lt t k
      omega
/-- What the loop makes of a dependency: its left side, and one attribute. -/
def stepD (n : Nat) (d : Nat × Nat) : List (Nat × Nat) := if toF d.2 n < 0 then [] else if 3 < (bodyN n d.1).length then [] else [(d.1, (toF d.2 n).toNat)]
def keptD (n : Nat) (l : List (Nat × Nat)) : List (Nat × Nat) := l.flatMap (stepD n)
theorem keptD_len (n : Nat) (l : List (Nat × Nat)) : (keptD n l).length ≤ l.length := by
  induction l with
  | nil => simp [keptD]
  | cons d r ih =>
    unfold keptD at *
    rw [List.flatMap_cons, List.length_append, List.length_cons]
    have : (stepD n d).length ≤ 1 := by
      unfold stepD
      split
      · simp
      · split <;> simp
    omega
theorem mem_keptD {n : Nat} {l : List (Nat × Nat)} {e : Nat × Nat} (h : e ∈ keptD n l) : (∃ d ∈ l, e.1 = d.1) ∧ e.2 < n ∧ (bodyN n e.1).length ≤ 3 := by
  obtain ⟨d, hd, he⟩ := List.mem_flatMap.1 h
  unfold stepD at he
  split at he
  · cases he
  · split at he
    · cases he
    · rename_i h1 h2
      obtain rfl : e = (d.1, (toF d.2 n).toNat) := by simpa using he
      have := toF_lt d.2 n
      exact ⟨⟨d, hd, rfl⟩, by dsimp only; omega, by dsimp only; omega⟩
theorem keptD_snoc {n : Nat} {l : List (Nat × Nat)} {k : Nat} (hk : k < l.length) : keptD n (l.take (k + 1)) = keptD n (l.take k) ++ stepD n l[k] := by
  unfold keptD
  rw [List.take_succ_eq_append_getElem hk, List.flatMap_append]
  simp
def rulesD (n : Nat) (l : List (Nat × Nat)) : List (Nat × List Nat) := l.map fun d => (d.2, bodyN n d.1)
def depsD (l : List (Nat × Nat)) : List (Nat × Nat) := l.map fun d => (d.1, 2 ^ d.2)
/-- Rels as a set of attributes. -/
def orL (S : List Nat) : Nat := S.foldl (fun a r => a ||| 2 ^ r) 0
theorem orL_aux : ∀ (S : List Nat) (a i : Nat), (S.foldl (fun a r => a ||| 2 ^ r) a).testBit i = true ↔ a.testBit i = true ∨ i ∈ S
  | [], a, i => by simp
  | r :: S, a, i => by
    rw [List.foldl_cons, orL_aux S, bit_or_pow, List.mem_cons, or_assoc]
theorem orL_bit {S : List Nat} {i : Nat} : (orL S).testBit i = true ↔ i ∈ S := by
  unfold orL
  rw [orL_aux]
  simp
theorem orL_perm {S S' : List Nat} (h : S.Perm S') : orL S = orL S' := Nat.eq_of_testBit_eq fun i => by
  rw [Bool.eq_iff_iff, orL_bit, orL_bit, h.mem_iff]
theorem least_cl {n s : Nat} {l : List (Nat × Nat)} {S : List Nat} (hs : s < 2 ^ n) (hl : ∀ d ∈ l, d.1 < 2 ^ n) (h : LeastR (rulesD n l) (bodyN n s) S) : orL S = clF (depsD l) s := by
  refine IsCl.uniq (l := depsD l) (s := s) ⟨fun x hx => ?_, fun d hd hb => ?_, fun t h1 h2 => ?_⟩ (clF_is _ _)
  · exact orL_bit.2 (h.base x (mem_bodyN.2 ⟨bit_lt hs hx, hx⟩))
  · obtain ⟨e, he, rfl⟩ := List.mem_map.1 hd
    intro x hx
    dsimp only at hx hb
    rw [Nat.testBit_two_pow, decide_eq_true_eq] at hx
    subst hx
    refine orL_bit.2 (h.closed (e.2, bodyN n e.1) (List.mem_map.2 ⟨e, he, rfl⟩) fun b hb' => ?_)
    exact orL_bit.1 (hb b (mem_bodyN.1 hb').2)
  · intro x hx
    refine h.least (fun r => t.testBit r = true) (fun r hr => h1 r (mem_bodyN.1 hr).2) (fun r hr hbs => ?_) x (orL_bit.1 hx)
    obtain ⟨e, he, rfl⟩ := List.mem_map.1 hr
    refine h2 (e.1, 2 ^ e.2) (List.mem_map.2 ⟨e, he, rfl⟩) (fun x hx => ?_) e.2 (by simp [Nat.testBit_two_pow])
    exact hbs x (mem_bodyN.2 ⟨bit_lt (hl e he) hx, hx⟩)
end Go.Proofs.Ytleiddajojgmmaa
