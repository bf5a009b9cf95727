/- Elimination orders: a hole hinders every one; the greedy one is the least. No program, no condition. -/
import Derived.Test.YtmpjanpmkmlloaaDoorGd
namespace Go.Proofs.YtmpjanpmkmlloaaDoor
open Go Go.RowKit VC
set_option linter.unusedSimpArgs false
set_option linter.unusedVariables false

theorem and_self_sub {N : List Nat} (hN : VN N) (i left : Nat) : nb N i &&& nSub left (2 ^ i) = nb N i &&& left := by
  apply Nat.eq_of_testBit_eq
  intro j
  rw [Nat.testBit_and, Nat.testBit_and, nSub_bit, two_bit]
  by_cases e : i = j
  · subst e; rw [hN.irr']; simp
  · simp [e]
/-- A node of a hole cannot be eliminated while all of the hole is left. -/
theorem hole_core {N : List Nat} (hN : VN N) {l : List Int} (h : HoleP N l) {left : Nat} (hin : ∀ i, i < l.length → left.testBit (gi l i).toNat = true) {k : Nat} (hk : k < l.length) : ¬ Clq N (nb N (gi l k).toNat &&& left) := fun hq => by
  have h4 := h.four
  have adj : ∀ i j, i < l.length → j < i → (i - j = 1 ∨ i - j = l.length - 1) → E N (gi l i).toNat (gi l j).toNat := fun i j hi hj hd => (h.adj i j hi hj).2 hd
  have nadj : ∀ i j, i < l.length → j < i → ¬ (i - j = 1 ∨ i - j = l.length - 1) → ¬ E N (gi l i).toNat (gi l j).toNat := fun i j hi hj hd he => hd ((h.adj i j hi hj).1 he)
  have use : ∀ a b, a < l.length → b < a → E N (gi l k).toNat (gi l a).toNat → E N (gi l k).toNat (gi l b).toNat → ¬ (a - b = 1 ∨ a - b = l.length - 1) → False := fun a b ha hb h1 h2 h3 => by
    refine nadj a b ha hb h3 (hq _ ?_ _ ?_ ?_)
    · rw [Nat.testBit_and, Bool.and_eq_true]; exact ⟨h1, hin a ha⟩
    · rw [Nat.testBit_and, Bool.and_eq_true]; exact ⟨h2, hin b (by omega)⟩
    · intro e
      have := h.ne a b ha hb
      have h5 := h.rng a ha
      have h6 := h.rng b (by omega)
      omega
  by_cases h0 : k = 0
  · subst h0
    exact use (l.length - 1) 1 (by omega) (by omega) ((adj (l.length - 1) 0 (by omega) (by omega) (by omega)).symm hN) ((adj 1 0 (by omega) (by omega) (by omega)).symm hN) (by omega)
  · by_cases h1 : k = l.length - 1
    · subst h1
      exact use (l.length - 1 - 1) 0 (by omega) (by omega) (adj _ _ (by omega) (by omega) (by omega)) (adj _ _ (by omega) (by omega) (by omega)) (by omega)
    · exact use (k + 1) (k - 1) (by omega) (by omega) ((adj (k + 1) k (by omega) (by omega) (by omega)).symm hN) (adj k (k - 1) (by omega) (by omega) (by omega)) (by omega)
theorem hole_no_el {N : List Nat} (hN : VN N) {l : List Int} (h : HoleP N l) : ∀ (r : List Int) (left : Nat), (∀ i, i < l.length → left.testBit (gi l i).toNat = true) → elN N left r = false
  | [], left, hin => by
    have := hin 0 (by have := h.four; omega)
    have : ¬ left = 0 := fun e => by subst e; simp at this
    simp [elN, this]
  | x :: r, left, hin => by
    cases he : elN N left (x :: r) with
    | false => rfl
    | true =>
      simp only [elN, Bool.and_eq_true, decide_eq_true_eq] at he
      obtain ⟨⟨⟨⟨h0, h1⟩, hb⟩, hc⟩, he⟩ := he
      rw [and_self_sub hN, cliq_iff (Nat.lt_of_le_of_lt Nat.and_le_left (hN.nb_lt' _))] at hc
      by_cases hk : ∃ k, k < l.length ∧ (gi l k).toNat = x.toNat
      · obtain ⟨k, hk, e⟩ := hk
        rw [← e] at hc
        exact absurd hc (hole_core hN h hin hk)
      · have := hole_no_el hN h r (nSub left (2 ^ x.toNat)) fun i hi => by
          rw [nSub_bit, hin i hi, two_bit]
          have : ¬ x.toNat = (gi l i).toNat := fun e => hk ⟨i, hi, e.symm⟩
          simp [this]
        rw [this] at he; cases he
theorem hole_no_order {N : List Nat} (hN : VN N) {l : List Int} (h : HoleP N l) (r : List Int) : elN N (al N) r = false :=
  hole_no_el hN h r _ fun i hi => by
    rw [al_bit]
    have := h.rng i hi
    simp; omega
/-- An order, and so the greedy one. -/
theorem ord_of_el {N : List Nat} (hN : VN N) {r : List Int} (h : elN N (al N) r = true) : (ordG N).isSome = true := by
  cases ho : ordG N with
  | some l => rfl
  | none =>
    have hs := ord_none hN ho
    have hn : ¬ ∀ l, ¬ HoleP N l := fun h0 => by rw [(firstH_none hN).2 h0] at hs; cases hs
    refine absurd (fun l hl => ?_) hn
    rw [hole_no_order hN hl] at h; cases h
theorem find_first {left i : Nat} {q : Nat → Bool} (h : (els left).find? q = some i) : (left.testBit i = true ∧ i < 12 ∧ q i = true) ∧ ∀ j, j < i → left.testBit j = true → q j = false := by
  unfold els at h
  rw [List.find?_filter, List.find?_range_eq_some] at h
  obtain ⟨h1, h2, h3⟩ := h
  have h1 : left.testBit i = true ∧ q i = true := by simpa using h1
  refine ⟨⟨h1.1, by simpa using h2, h1.2⟩, fun j hj hb => ?_⟩
  have := h3 j hj
  simpa [hb] using this
def cmpI : List Int → List Int → Int
  | [], [] => 0
  | [], _ :: _ => -1
  | _ :: _, [] => 1
  | x :: r, y :: s => if x < y then -1 else if y < x then 1 else cmpI r s
theorem greedy_least {N : List Nat} (hN : VN N) : ∀ (f left : Nat) (r : List Nat) (l : List Int), ordN N f left = some r → elN N left l = true → cmpI (ofN r) l ≤ 0
  | f, left, r, [], ho, he => by
    have h0 : left = 0 := by simpa [elN] using he
    subst h0
    have : r = [] := by
      cases f <;> simp [ordN] at ho <;> exact ho
    subst this
    simp [cmpI]
  | 0, left, r, x :: l, ho, he => by
    simp only [elN, Bool.and_eq_true, decide_eq_true_eq] at he
    unfold ordN at ho
    split at ho
    · rename_i h0
      subst h0
      have := he.1.1.2
      simp at this
    · cases ho
  | f + 1, left, r, x :: l, ho, he => by
    simp only [elN, Bool.and_eq_true, decide_eq_true_eq] at he
    obtain ⟨⟨⟨⟨h0, h1⟩, hb⟩, hc⟩, he⟩ := he
    have hz : left ≠ 0 := fun e => by subst e; simp at hb
    unfold ordN at ho
    rw [if_neg hz] at ho
    cases hf : (els left).find? (fun i => cliq N (nb N i &&& left)) with
    | none => rw [hf] at ho; cases ho
    | some i =>
      rw [hf] at ho
      simp only [Option.map_eq_some_iff] at ho
      obtain ⟨r', hr', rfl⟩ := ho
      obtain ⟨⟨i1, i2, i3⟩, i4⟩ := find_first hf
      rw [and_self_sub hN] at hc
      obtain ⟨xn, rfl⟩ : ∃ xn : Nat, x = (xn : Int) := ⟨x.toNat, by omega⟩
      simp only [Int.toNat_natCast] at hb hc he
      show cmpI ((i : Int) :: ofN r') ((xn : Int) :: l) ≤ 0
      unfold cmpI
      by_cases hlt : (i : Int) < xn
      · rw [if_pos hlt]; omega
      · rw [if_neg hlt]
        by_cases hgt : (xn : Int) < i
        · have := i4 xn (by omega) hb
          rw [hc] at this; cases this
        · rw [if_neg hgt]
          have : i = xn := by omega
          subst this
          exact greedy_least hN f _ r' l hr' he
theorem ord_el {N : List Nat} (hN : VN N) : ∀ (f left : Nat) (r : List Nat), left < 2 ^ N.length → ordN N f left = some r → elN N left (ofN r) = true
  | 0, left, r, hl, ho => by
    unfold ordN at ho
    split at ho
    · rename_i h0
      subst h0
      simp at ho
      subst ho
      rfl
    · cases ho
  | f + 1, left, r, hl, ho => by
    unfold ordN at ho
    split at ho
    · rename_i h0
      subst h0
      simp at ho
      subst ho
      rfl
    · split at ho
      · cases ho
      · rename_i i hi
        simp only [Option.map_eq_some_iff] at ho
        obtain ⟨r', hr', rfl⟩ := ho
        obtain ⟨⟨i1, i2, i3⟩, -⟩ := find_first hi
        have := ord_el hN f _ r' (nSub_lt hl) hr'
        have hil := bit_lt hl i1
        show elN N left ((i : Int) :: ofN r') = true
        simp only [elN, Int.toNat_natCast, and_self_sub hN, i1, i3, this, Bool.and_true, Bool.and_eq_true, decide_eq_true_eq]
        exact ⟨by omega, by omega⟩
theorem ordG_el {N : List Nat} (hN : VN N) {r : List Nat} (h : ordG N = some r) : elN N (al N) (ofN r) = true := ord_el hN 12 _ r (al_lt N) h
theorem el_len {N : List Nat} (hN : VN N) {l : List Int} (h : elN N (al N) l = true) : l.length = N.length := by
  rw [← pc_al hN]; exact (el_true hN l _ (al_lt N) h).2.1
theorem firstH_least {N : List Nat} (hN : VN N) {r : List Nat} (h : firstH N = some r) {l : List Int} (hl : HoleP N l) : r.length ≤ l.length := by
  unfold firstH at h
  rw [List.findSome?_eq_some_iff] at h
  obtain ⟨l1, k, l2, e, hk, hno⟩ := h
  split at hk
  · rename_i h4
    have hr := (holeS_sound (by omega) hk).2
    have e2 : ofN (l.map Int.toNat) = l := ofN_toNat fun i hi => (hl.rng i hi).1
    have hc := holeS_complete hN (l := l.map Int.toNat) (by rw [e2]; exact hl)
    rw [List.length_map] at hc
    rcases Nat.lt_or_ge l.length k with hlt | hge
    · have hmem : l.length ∈ l1 := by
        have h1 : (List.range (N.length + 1))[l1.length]? = some k := by rw [e]; simp
        have h2 : l1.length = k := by
          obtain ⟨h3, h4⟩ := List.getElem?_eq_some_iff.1 h1
          simpa using h4
        have h3 : (List.range (N.length + 1))[l.length]? = l1[l.length]? := by
          rw [e, List.getElem?_append_left (by omega)]
        have h4 : (List.range (N.length + 1))[l.length]? = some l.length := by
          have := hl.le
          rw [List.getElem?_range (by omega)]
        rw [h4] at h3
        exact List.mem_of_getElem? h3.symm
      have := hno _ hmem
      rw [if_pos hl.four] at this
      rw [this] at hc; cases hc
    · omega
  · cases hk
theorem firstH_hole {N : List Nat} {r : List Nat} (h : firstH N = some r) : HoleP N (ofN r) := by
  unfold firstH at h
  obtain ⟨k, -, hk⟩ := List.exists_of_findSome?_eq_some h
  split at hk
  · exact (holeS_sound (by omega) hk).1
  · cases hk
end Go.Proofs.YtmpjanpmkmlloaaDoor
