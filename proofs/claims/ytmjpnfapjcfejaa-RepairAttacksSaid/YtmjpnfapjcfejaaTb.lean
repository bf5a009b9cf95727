/- The deletion of ears with sets of variables as numbers: what it finds are ears. Of no program. No condition. -/
import Derived.Test.YtmjpnfapjcfejaaTa
namespace Go.Proofs.Ytmjpnfapjcfejaa
set_option linter.unusedVariables false

/-- What the others that are left have. -/
def othG (left : Nat) (V : List Nat) (i : Nat) : List Nat → Nat := List.foldl (fun acc k => if k ≠ i ∧ left.testBit k = true then acc ||| V.getD k 0 else acc) 0
def othN (n left : Nat) (V : List Nat) (i : Nat) : Nat := othG left V i (List.range n)
theorem oth_go (left : Nat) (V : List Nat) (i x : Nat) : ∀ (l : List Nat) (acc : Nat), (l.foldl (fun acc k => if k ≠ i ∧ left.testBit k = true then acc ||| V.getD k 0 else acc) acc).testBit x = true ↔ acc.testBit x = true ∨ ∃ k ∈ l, k ≠ i ∧ left.testBit k = true ∧ (V.getD k 0).testBit x = true
  | [], acc => by simp
  | a :: r, acc => by
    rw [List.foldl_cons, oth_go left V i x r]
    by_cases h : a ≠ i ∧ left.testBit a = true
    · rw [if_pos h, Nat.testBit_or, Bool.or_eq_true]
      constructor
      · rintro ((h1 | h1) | ⟨k, h1, h2⟩)
        · exact .inl h1
        · exact .inr ⟨a, List.mem_cons_self .., h.1, h.2, h1⟩
        · exact .inr ⟨k, List.mem_cons_of_mem _ h1, h2⟩
      · rintro (h1 | ⟨k, h1, h2⟩)
        · exact .inl (.inl h1)
        · rcases List.mem_cons.1 h1 with rfl | h1
          · exact .inl (.inr h2.2.2)
          · exact .inr ⟨k, h1, h2⟩
    · rw [if_neg h]
      constructor
      · rintro (h1 | ⟨k, h1, h2⟩)
        · exact .inl h1
        · exact .inr ⟨k, List.mem_cons_of_mem _ h1, h2⟩
      · rintro (h1 | ⟨k, h1, h2⟩)
        · exact .inl h1
        · rcases List.mem_cons.1 h1 with rfl | h1
          · exact absurd ⟨h2.1, h2.2.1⟩ h
          · exact .inr ⟨k, h1, h2⟩
theorem oth_bit {n left : Nat} {V : List Nat} {i x : Nat} : (othN n left V i).testBit x = true ↔ ∃ k, k < n ∧ k ≠ i ∧ left.testBit k = true ∧ (V.getD k 0).testBit x = true := by
  unfold othN othG
  rw [oth_go]
  simp only [Nat.zero_testBit, Bool.false_eq_true, false_or, List.mem_range]
def cutN (n left : Nat) (V : List Nat) (i : Nat) : List Nat := V.set i (V.getD i 0 &&& othN n left V i)
def cutK (n left : Nat) (V : List Nat) (k : Nat) : List Nat := (List.range k).foldl (cutN n left) V
theorem cutK_succ (n left : Nat) (V : List Nat) (k : Nat) : cutK n left V (k + 1) = cutN n left (cutK n left V k) k := by
  unfold cutK
  rw [List.range_succ, List.foldl_append]
  rfl
/-- What is kept between the rounds. -/
structure EarI (vs : Nat → Nat → Prop) (n left : Nat) (V : List Nat) : Prop where
  len : V.length = n
  sub : ∀ i, i < n → left.testBit i = true → ∀ x, (V.getD i 0).testBit x = true → vs i x
  has : ∀ i k, i < n → k < n → i ≠ k → left.testBit i = true → left.testBit k = true → ∀ x, vs i x → vs k x → (V.getD i 0).testBit x = true
/-- Nothing but what is shared is kept of atom i. -/
def Tight (vs : Nat → Nat → Prop) (n left : Nat) (V : List Nat) (i : Nat) : Prop := ∀ x, (V.getD i 0).testBit x = true → ∃ k, k < n ∧ k ≠ i ∧ left.testBit k = true ∧ vs k x
section
variable {vs : Nat → Nat → Prop} {n left : Nat} {V : List Nat}
theorem getD_setN {l : List Nat} {k : Nat} (hk : k < l.length) (y i : Nat) : (l.set k y).getD i 0 = if i = k then y else l.getD i 0 := by
  simp only [List.getD, List.getElem?_set]
  by_cases h : k = i
  · subst h
    rw [if_pos rfl, if_pos rfl, if_pos hk]
    rfl
  · rw [if_neg h, if_neg (Ne.symm h)]
theorem cut_get (hl : V.length = n) {i : Nat} (hi : i < n) (k : Nat) : (cutN n left V i).getD k 0 = if k = i then V.getD i 0 &&& othN n left V i else V.getD k 0 := getD_setN (by omega) _ _
theorem EarI.cut (h : EarI vs n left V) {i : Nat} (hi : i < n) : EarI vs n left (cutN n left V i) := by
  refine ⟨by unfold cutN; rw [List.length_set]; exact h.len, fun j hj hlj x hx => ?_, fun j k hj hk hjk hlj hlk x hx hy => ?_⟩
  · rw [cut_get h.len hi] at hx
    split at hx
    · rename_i e
      subst e
      rw [Nat.testBit_and, Bool.and_eq_true] at hx
      exact h.sub j hj hlj x hx.1
    · exact h.sub j hj hlj x hx
  · rw [cut_get h.len hi]
    split
    · rename_i e
      subst e
      rw [Nat.testBit_and, Bool.and_eq_true]
      exact ⟨h.has j k hj hk hjk hlj hlk x hx hy, oth_bit.2 ⟨k, hk, Ne.symm hjk, hlk, h.has k j hk hj (Ne.symm hjk) hlk hlj x hy hx⟩⟩
    · exact h.has j k hj hk hjk hlj hlk x hx hy
theorem EarI.cutK (h : EarI vs n left V) : ∀ {k : Nat}, k ≤ n → EarI vs n left (cutK n left V k) ∧ ∀ i, i < k → Tight vs n left (cutK n left V k) i
  | 0, _ => ⟨h, fun i hi => by omega⟩
  | k + 1, hk => by
    obtain ⟨h1, h2⟩ := EarI.cutK h (k := k) (by omega)
    rw [cutK_succ]
    refine ⟨h1.cut (by omega), fun i hi x hx => ?_⟩
    rw [cut_get h1.len (by omega)] at hx
    split at hx
    · rename_i e
      subst e
      rw [Nat.testBit_and, Bool.and_eq_true] at hx
      obtain ⟨k, a1, a2, a3, a4⟩ := oth_bit.1 hx.2
      exact ⟨k, a1, a2, a3, h1.sub k a1 a3 x a4⟩
    · exact h2 i (by omega) x hx
end
/-! ## The pair that is taken: the last -/
def earT (left : Nat) (V : List Nat) (i k : Nat) : Bool := decide (k ≠ i) && left.testBit i && left.testBit k && decide (V.getD i 0 &&& V.getD k 0 = V.getD i 0)
theorem sub_bits {a b : Nat} : a &&& b = a ↔ ∀ x, a.testBit x = true → b.testBit x = true := by
  constructor
  · intro h x hx
    rw [← h, Nat.testBit_and, Bool.and_eq_true] at hx
    exact hx.2
  · intro h
    refine Nat.eq_of_testBit_eq fun x => ?_
    rw [Nat.testBit_and]
    cases hx : a.testBit x with
    | false => rfl
    | true => rw [h x hx]; rfl
def pickIn (left : Nat) (V : List Nat) (i m : Nat) (acc : Option (Nat × Nat)) : Option (Nat × Nat) := (List.range m).foldl (fun acc k => if earT left V i k = true then some (i, k) else acc) acc
def pickN (n left : Nat) (V : List Nat) (m : Nat) : Option (Nat × Nat) := (List.range m).foldl (fun acc i => pickIn left V i n acc) none
theorem pickIn_succ (left : Nat) (V : List Nat) (i m : Nat) (acc : Option (Nat × Nat)) : pickIn left V i (m + 1) acc = if earT left V i m = true then some (i, m) else pickIn left V i m acc := by
  unfold pickIn
  rw [List.range_succ, List.foldl_append]
  rfl
theorem pickN_succ (n left : Nat) (V : List Nat) (m : Nat) : pickN n left V (m + 1) = pickIn left V m n (pickN n left V m) := by
  unfold pickN
  rw [List.range_succ, List.foldl_append]
  rfl
theorem pick_some {n left : Nat} {V : List Nat} : ∀ {m : Nat} {i k : Nat}, m ≤ n → pickN n left V m = some (i, k) → i < n ∧ k < n ∧ earT left V i k = true := by
  have inn : ∀ {j : Nat}, j < n → ∀ m, m ≤ n → ∀ acc : Option (Nat × Nat), (∀ i k, acc = some (i, k) → i < n ∧ k < n ∧ earT left V i k = true) → ∀ i k, pickIn left V j m acc = some (i, k) → i < n ∧ k < n ∧ earT left V i k = true := fun {j} hj m => by
    induction m with
    | zero => intro _ acc h; exact h
    | succ m ih =>
      intro hm acc h i k he
      rw [pickIn_succ] at he
      split at he
      · rename_i ht
        obtain ⟨rfl, rfl⟩ : j = i ∧ m = k := by simpa using he
        exact ⟨hj, by omega, ht⟩
      · exact ih (by omega) acc h i k he
  intro m
  induction m with
  | zero => intro i k _ h; simp [pickN] at h
  | succ m ih =>
    intro i k hm h
    rw [pickN_succ] at h
    exact inn (by omega) n (Nat.le_refl _) _ (fun i k he => ih (by omega) he) i k h
end Go.Proofs.Ytmjpnfapjcfejaa
