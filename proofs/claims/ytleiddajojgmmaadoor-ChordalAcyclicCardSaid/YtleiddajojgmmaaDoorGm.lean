/- A graph without holes has an elimination order, and one with a hole has none (Dirac; Fulkerson and Gross). No program, no condition. -/
import Derived.Test.YtleiddajojgmmaaDoorCn
import Derived.Test.YtleiddajojgmmaaDoorCb
import Derived.Laws.CopyRow
import Derived.Test.YtleiddajojgmmaaDoorSh
import Derived.Sort.OwnSortedInts
namespace Go.Proofs.YtleiddajojgmmaaDoor
open Go Go.RowKit VC
set_option linter.unusedSimpArgs false
set_option linter.unusedVariables false

/-- Two nodes are neighbours. -/
def E (N : List Nat) (i j : Nat) : Prop := (nb N i).testBit j = true
theorem E.symm {N : List Nat} (hN : VN N) {i j : Nat} (h : E N i j) : E N j i := by unfold E at *; rw [hN.sym']; exact h
theorem E.ne {N : List Nat} (hN : VN N) {i j : Nat} (h : E N i j) : i ≠ j := fun e => by subst e; unfold E at h; rw [hN.irr'] at h; cases h
theorem E.lt {N : List Nat} (hN : VN N) {i j : Nat} (h : E N i j) : j < N.length := bit_lt (hN.nb_lt i) h
/-! ## Sets out of predicates -/
open Classical in
noncomputable def mkS (p : Nat → Prop) : Nat := ((List.range 12).filter fun i => decide (p i)).foldr (fun i s => 2 ^ i ||| s) 0
theorem fold_bit : ∀ (l : List Nat) (i : Nat), (l.foldr (fun i s => 2 ^ i ||| s) 0).testBit i = true ↔ i ∈ l
  | [], i => by simp
  | a :: l, i => by
    simp only [List.foldr_cons, Nat.testBit_or, Bool.or_eq_true, two_bit, decide_eq_true_eq, List.mem_cons, fold_bit l i]
    constructor
    · rintro (h | h)
      · exact .inl h.symm
      · exact .inr h
    · rintro (h | h)
      · exact .inl h.symm
      · exact .inr h
theorem mkS_bit {p : Nat → Prop} {i : Nat} : (mkS p).testBit i = true ↔ i < 12 ∧ p i := by
  unfold mkS; rw [fold_bit]; simp
/-! ## Rings -/
/-- n nodes in a ring, with no other edges among them. -/
structure Ring (N : List Nat) (n : Nat) (f : Nat → Nat) : Prop where
  four : 4 ≤ n
  lt : ∀ i, i < n → f i < N.length
  inj : ∀ i j, i < n → j < n → f i = f j → i = j
  adj : ∀ i j, i < n → j < i → (E N (f i) (f j) ↔ i - j = 1 ∨ i - j = n - 1)
theorem Ring.adj' {N : List Nat} (hN : VN N) {n : Nat} {f : Nat → Nat} (h : Ring N n f) {i j : Nat} (hi : i < n) (hj : j < n) : E N (f i) (f j) ↔ i = j + 1 ∨ j = i + 1 ∨ (i = 0 ∧ j = n - 1) ∨ (j = 0 ∧ i = n - 1) := by
  have h4 := h.four
  rcases Nat.lt_trichotomy i j with hlt | rfl | hgt
  · have := h.adj j i hj hlt
    constructor
    · intro he
      have := this.1 (he.symm hN)
      omega
    · intro h1
      exact (this.2 (by omega)).symm hN
  · constructor
    · intro he; exact absurd rfl (he.ne hN)
    · intro h1; omega
  · have := h.adj i j hi hgt
    rw [this]; omega
theorem Ring.map {N : List Nat} (hN : VN N) {n : Nat} {f : Nat → Nat} (h : Ring N n f) (g : Nat → Nat) (hlt : ∀ i, i < n → g i < n) (hinj : ∀ i j, i < n → j < n → g i = g j → i = j)
    (hadj : ∀ i j, i < n → j < i → ((g i = g j + 1 ∨ g j = g i + 1 ∨ (g i = 0 ∧ g j = n - 1) ∨ (g j = 0 ∧ g i = n - 1)) ↔ i - j = 1 ∨ i - j = n - 1)) : Ring N n fun i => f (g i) :=
  ⟨h.four, fun i hi => h.lt _ (hlt i hi), fun i j hi hj e => hinj i j hi hj (h.inj _ _ (hlt i hi) (hlt j hj) e), fun i j hi hji => by
    rw [h.adj' hN (hlt i hi) (hlt j (by omega))]
    exact hadj i j hi hji⟩
def rot (n k i : Nat) : Nat := if k + i < n then k + i else k + i - n
def ref (n k i : Nat) : Nat := if i ≤ k then k - i else k + n - i
theorem Ring.rot {N : List Nat} (hN : VN N) {n : Nat} {f : Nat → Nat} (h : Ring N n f) {k : Nat} (hk : k < n) : Ring N n fun i => f (rot n k i) := by
  have h4 := h.four
  refine h.map hN _ (fun i hi => by unfold Proofs.YtleiddajojgmmaaDoor.rot; split <;> omega) (fun i j hi hj e => ?_) fun i j hi hji => ?_
  · unfold Proofs.YtleiddajojgmmaaDoor.rot at e; split at e <;> split at e <;> omega
  · unfold Proofs.YtleiddajojgmmaaDoor.rot; split <;> split <;> omega
theorem Ring.ref {N : List Nat} (hN : VN N) {n : Nat} {f : Nat → Nat} (h : Ring N n f) {k : Nat} (hk : k < n) : Ring N n fun i => f (ref n k i) := by
  have h4 := h.four
  refine h.map hN _ (fun i hi => by unfold Proofs.YtleiddajojgmmaaDoor.ref; split <;> omega) (fun i j hi hj e => ?_) fun i j hi hji => ?_
  · unfold Proofs.YtleiddajojgmmaaDoor.ref at e; split at e <;> split at e <;> omega
  · unfold Proofs.YtleiddajojgmmaaDoor.ref; split <;> split <;> omega
theorem exists_min (f : Nat → Nat) : ∀ n, 0 < n → ∃ k, k < n ∧ ∀ i, i < n → f k ≤ f i
  | 1, _ => ⟨0, by omega, fun i hi => by have : i = 0 := by omega
                                         subst this; omega⟩
  | n + 2, _ => by
    obtain ⟨k, hk, h⟩ := exists_min f (n + 1) (by omega)
    by_cases hc : f k ≤ f (n + 1)
    · exact ⟨k, by omega, fun i hi => by
        by_cases e : i = n + 1
        · subst e; exact hc
        · exact h i (by omega)⟩
    · exact ⟨n + 1, by omega, fun i hi => by
        by_cases e : i = n + 1
        · subst e; omega
        · have := h i (by omega); omega⟩
theorem hole_of_ring0 {N : List Nat} {n : Nat} {f : Nat → Nat} (h : Ring N n f) (hmin : ∀ i, i < n → f 0 ≤ f i) (ht : f 1 < f (n - 1)) : HoleP N (ofN ((List.range n).map f)) := by
  have h4 := h.four
  have hlen : (ofN ((List.range n).map f)).length = n := by simp
  have hg : ∀ i, i < n → gi (ofN ((List.range n).map f)) i = ((f i : Nat) : Int) := fun i hi => by
    rw [gi_ofN]; simp [gn, hi]
  refine ⟨by rw [hlen]; exact h4, fun i hi => ?_, fun i hi => ?_, fun i j hi hj => ?_, fun i j hi hj => ?_, ?_⟩
  · rw [hlen] at hi
    rw [hg i hi]
    have := h.lt i hi; omega
  · rw [hlen] at hi
    rw [hg i hi, hg 0 (by omega)]
    have := hmin i hi; omega
  · rw [hlen] at hi
    rw [hg i hi, hg j (by omega)]
    intro e
    have := h.inj i j hi (by omega) (by omega)
    omega
  · rw [hlen] at hi ⊢
    rw [hg i hi, hg j (by omega), ← h.adj i j hi hj]
    simp [ed, E]
  · rw [hlen, hg 1 (by omega), hg (n - 1) (by omega)]
    omega
theorem hole_of_ring {N : List Nat} (hN : VN N) {n : Nat} {f : Nat → Nat} (h : Ring N n f) : ∃ l, HoleP N l := by
  have h4 := h.four
  obtain ⟨k, hk, hmin⟩ := exists_min f n (by omega)
  have r1 := h.rot hN hk
  have m1 : ∀ i, i < n → f (rot n k 0) ≤ f (rot n k i) := fun i hi => by
    have e : rot n k 0 = k := by unfold rot; rw [if_pos (by omega)]; omega
    rw [e]
    exact hmin _ (by unfold rot; split <;> omega)
  by_cases hc : f (rot n k 1) < f (rot n k (n - 1))
  · exact ⟨_, hole_of_ring0 r1 m1 hc⟩
  · have r2 := h.ref hN hk
    refine ⟨_, hole_of_ring0 r2 (fun i hi => ?_) ?_⟩
    · have e : ref n k 0 = k := by unfold ref; rw [if_pos (by omega)]; omega
      rw [e]
      exact hmin _ (by unfold ref; split <;> omega)
    · have e1 : ref n k 1 = rot n k (n - 1) := by unfold ref rot; split <;> split <;> omega
      have e2 : ref n k (n - 1) = rot n k 1 := by unfold ref rot; split <;> split <;> omega
      rw [e1, e2]
      have := r1.inj 1 (n - 1) (by omega) (by omega)
      have hne : f (rot n k 1) ≠ f (rot n k (n - 1)) := fun e => by have := this e; omega
      omega

/-! ## Shortest ways -/
/-- A way of m steps from x to y with what lies between in C. -/
structure Way (N : List Nat) (C : Nat → Prop) (x y m : Nat) (p : Nat → Nat) : Prop where
  h0 : p 0 = x
  hm : p m = y
  inn : ∀ i, 0 < i → i < m → C (p i)
  adj : ∀ i, i < m → E N (p i) (p (i + 1))
theorem Way.cut {N : List Nat} {C : Nat → Prop} {x y m : Nat} {p : Nat → Nat} (h : Way N C x y m p) {i j : Nat} (hij : i + 1 < j) (hj : j ≤ m) (he : E N (p i) (p j)) : Way N C x y (m - (j - i - 1)) fun t => if t ≤ i then p t else p (t + (j - i - 1)) := by
  refine ⟨by simpa using h.h0, ?_, fun t h1 h2 => ?_, fun t ht => ?_⟩
  · have : ¬ m - (j - i - 1) ≤ i := by omega
    have e : m - (j - i - 1) + (j - i - 1) = m := by omega
    simp only [this, if_false, e]
    exact h.hm
  · skip
    split
    · exact h.inn t h1 (by omega)
    · exact h.inn _ (by omega) (by omega)
  · skip
    by_cases h1 : t + 1 ≤ i
    · rw [if_pos (by omega), if_pos h1]
      exact h.adj t (by omega)
    · by_cases h2 : t ≤ i
      · have e : t = i := by omega
        subst e
        have e2 : t + 1 + (j - t - 1) = j := by omega
        rw [if_pos (by omega), if_neg h1, e2]
        exact he
      · rw [if_neg h2, if_neg h1]
        have := h.adj (t + (j - i - 1)) (by omega)
        have e2 : t + 1 + (j - i - 1) = t + (j - i - 1) + 1 := by omega
        rw [e2]; exact this
theorem exists_least {P : Nat → Prop} : ∀ n, P n → ∃ m, P m ∧ ∀ k, k < m → ¬ P k := by
  intro n
  induction n using Nat.strongRecOn with
  | ind n ih =>
    intro hn
    by_cases h : ∃ k, k < n ∧ P k
    · obtain ⟨k, hk, hp⟩ := h
      exact ih k hk hp
    · exact ⟨n, hn, fun k hk hp => h ⟨k, hk, hp⟩⟩
/-- Reached from w within t. -/
inductive Rch (N : List Nat) (t : Nat → Prop) (w : Nat) : Nat → Prop
  | base : t w → Rch N t w w
  | step {a b : Nat} : Rch N t w a → E N a b → t b → Rch N t w b
theorem Rch.mem {N : List Nat} {t : Nat → Prop} {w a : Nat} (h : Rch N t w a) : t a := by
  cases h with
  | base h => exact h
  | step _ _ h => exact h
/-- A way within t from w. -/
theorem Rch.way {N : List Nat} {t : Nat → Prop} {w a : Nat} (h : Rch N t w a) : ∃ (m : Nat) (p : Nat → Nat), p 0 = w ∧ p m = a ∧ (∀ i, i ≤ m → Rch N t w (p i)) ∧ ∀ i, i < m → E N (p i) (p (i + 1)) := by
  induction h with
  | base h => exact ⟨0, fun _ => w, rfl, rfl, fun _ _ => .base h, fun i hi => by omega⟩
  | @step a b h1 h2 h3 ih =>
    obtain ⟨m, p, e1, e2, e3, e4⟩ := ih
    refine ⟨m + 1, fun i => if i ≤ m then p i else b, by simpa using e1, if_neg (by omega), fun i hi => ?_, fun i hi => ?_⟩
    · simp only
      split
      · exact e3 i (by omega)
      · exact .step h1 h2 h3
    · simp only
      by_cases hc : i + 1 ≤ m
      · rw [if_pos (by omega), if_pos hc]; exact e4 i (by omega)
      · have e : i = m := by omega
        subst e
        rw [if_pos (by omega), if_neg hc, e2]; exact h2
/-- From a neighbour of what is reached to another one, through what is reached. -/
theorem way_between {N : List Nat} (hN : VN N) {t : Nat → Prop} {w x y c d : Nat} (hc : Rch N t w c) (hd : Rch N t w d) (hx : E N x c) (hy : E N d y) : ∃ m p, Way N (Rch N t w) x y m p := by
  obtain ⟨m1, p1, a1, a2, a3, a4⟩ := hc.way
  obtain ⟨m2, p2, b1, b2, b3, b4⟩ := hd.way
  obtain ⟨P, P0, P1, P2, P3⟩ : ∃ P : Nat → Nat, P 0 = x ∧ (∀ i, 1 ≤ i → i ≤ m1 + 1 → P i = p1 (m1 + 1 - i)) ∧ (∀ i, m1 + 1 < i → i ≤ m1 + m2 + 1 → P i = p2 (i - (m1 + 1))) ∧ P (m1 + m2 + 2) = y := by
    refine ⟨fun i => if i = 0 then x else if i ≤ m1 + 1 then p1 (m1 + 1 - i) else if i ≤ m1 + m2 + 1 then p2 (i - (m1 + 1)) else y, rfl, fun i h1 h2 => ?_, fun i h1 h2 => ?_, ?_⟩
    · exact (if_neg (by omega)).trans (if_pos h2)
    · exact (if_neg (by omega)).trans ((if_neg (by omega)).trans (if_pos h2))
    · exact (if_neg (by omega)).trans ((if_neg (by omega)).trans (if_neg (by omega)))
  refine ⟨m1 + m2 + 2, P, ⟨P0, P3, fun i h1 h2 => ?_, fun i hi => ?_⟩⟩
  · by_cases h : i ≤ m1 + 1
    · rw [P1 i h1 h]; exact a3 _ (by omega)
    · rw [P2 i (by omega) (by omega)]; exact b3 _ (by omega)
  · by_cases h0 : i = 0
    · subst h0
      rw [P0, P1 (0 + 1) (by omega) (by omega), show m1 + 1 - (0 + 1) = m1 by omega, a2]
      exact hx
    · by_cases h1 : i + 1 ≤ m1 + 1
      · rw [P1 i (by omega) (by omega), P1 (i + 1) (by omega) h1]
        have := a4 (m1 + 1 - (i + 1)) (by omega)
        have e : m1 + 1 - (i + 1) + 1 = m1 + 1 - i := by omega
        rw [e] at this
        exact this.symm hN
      · by_cases h2 : i ≤ m1 + 1
        · have e : i = m1 + 1 := by omega
          subst e
          rw [P1 _ (by omega) (Nat.le_refl _), show m1 + 1 - (m1 + 1) = 0 by omega, a1]
          by_cases h3 : m2 = 0
          · subst h3
            rw [show m1 + 1 + 1 = m1 + 0 + 2 by omega, P3]
            rw [b1] at b2
            rw [b2]; exact hy
          · rw [P2 _ (by omega) (by omega), show m1 + 1 + 1 - (m1 + 1) = 1 by omega, ← b1]
            exact b4 0 (by omega)
        · rw [P2 i (by omega) (by omega)]
          by_cases h3 : i + 1 ≤ m1 + m2 + 1
          · rw [P2 (i + 1) (by omega) h3]
            have := b4 (i - (m1 + 1)) (by omega)
            have e : i - (m1 + 1) + 1 = i + 1 - (m1 + 1) := by omega
            rw [e] at this; exact this
          · have e : i = m1 + m2 + 1 := by omega
            subst e
            rw [show m1 + m2 + 1 + 1 = m1 + m2 + 2 by omega, P3, show m1 + m2 + 1 - (m1 + 1) = m2 by omega, b2]
            exact hy
/-- Two neighbours of v that are no neighbours, with a way between them that avoids v's neighbours: a hole. -/
theorem hole_of_way {N : List Nat} (hN : VN N) {C : Nat → Prop} {v x y : Nat} (hCv : ∀ c, C c → ¬ E N v c ∧ c ≠ v) (hx : E N v x) (hy : E N v y) (hne : x ≠ y) (hxy : ¬ E N x y) (hw : ∃ m p, Way N C x y m p) : ∃ l, HoleP N l := by
  obtain ⟨m0, hm0⟩ := hw
  obtain ⟨m, ⟨p, hp⟩, hmin⟩ := exists_least (P := fun m => ∃ p, Way N C x y m p) m0 hm0
  have hm2 : 2 ≤ m := by
    rcases m with _ | _ | m
    · exact absurd (hp.h0.symm.trans hp.hm) hne
    · have := hp.adj 0 (by omega)
      rw [hp.h0] at this
      have e : p (0 + 1) = y := hp.hm
      rw [e] at this; exact absurd this hxy
    · omega
  have hchord : ∀ i j, i < j → j ≤ m → E N (p i) (p j) → j = i + 1 := fun i j hij hj he => by
    rcases Nat.lt_or_ge (i + 1) j with h | h
    · exact absurd ⟨_, hp.cut h hj he⟩ (hmin _ (by omega))
    · omega
  have hvp : ∀ i, i ≤ m → (E N v (p i) ↔ i = 0 ∨ i = m) ∧ p i ≠ v := fun i hi => by
    by_cases h0 : i = 0
    · subst h0; rw [hp.h0]; exact ⟨⟨fun _ => .inl rfl, fun _ => hx⟩, (hx.ne hN).symm⟩
    · by_cases hm : i = m
      · subst hm; rw [hp.hm]; exact ⟨⟨fun _ => .inr rfl, fun _ => hy⟩, (hy.ne hN).symm⟩
      · have := hCv _ (hp.inn i (by omega) (by omega))
        exact ⟨⟨fun h => absurd h this.1, fun h => by omega⟩, this.2⟩
  have hinj : ∀ i j, i < j → j ≤ m → p i ≠ p j := fun i j hij hj e => by
    by_cases hjm : j = m
    · subst hjm
      by_cases h0 : i = 0
      · subst h0; rw [hp.h0, hp.hm] at e; exact hne e
      · have h1 := (hvp i (by omega)).1
        have h2 := (hvp j (by omega)).1
        rw [← e] at h2
        have := h1.1 (h2.2 (.inr rfl))
        omega
    · -- then p i is a neighbour of p (j+1)
      have := hp.adj j (by omega)
      rw [← e] at this
      have := hchord i (j + 1) (by omega) (by omega) this
      omega
  refine hole_of_ring hN (n := m + 2) (f := fun i => if i = 0 then v else p (i - 1)) ⟨by omega, fun i hi => ?_, fun i j hi hj e => ?_, fun i j hi hj => ?_⟩
  · skip
    split
    · exact (hx.symm hN).lt hN
    · by_cases h : i - 1 = 0
      · rw [h, hp.h0]; exact hx.lt hN
      · have := hp.adj (i - 1 - 1) (by omega)
        have e : i - 1 - 1 + 1 = i - 1 := by omega
        rw [e] at this
        exact this.lt hN
  · by_cases h1 : i = 0
    · by_cases h2 : j = 0
      · omega
      · rw [if_pos h1, if_neg h2] at e
        exact absurd e.symm (hvp (j - 1) (by omega)).2
    · by_cases h2 : j = 0
      · rw [if_neg h1, if_pos h2] at e
        exact absurd e (hvp (i - 1) (by omega)).2
      · rw [if_neg h1, if_neg h2] at e
        rcases Nat.lt_trichotomy i j with h | h | h
        · exact absurd e (hinj (i - 1) (j - 1) (by omega) (by omega))
        · exact h
        · exact absurd e.symm (hinj (j - 1) (i - 1) (by omega) (by omega))
  · skip
    rw [if_neg (by omega)]
    by_cases h2 : j = 0
    · rw [if_pos h2]
      have := (hvp (i - 1) (by omega)).1
      constructor
      · intro h
        have := this.1 (h.symm hN)
        omega
      · intro h
        exact (this.2 (by omega)).symm hN
    · rw [if_neg h2]
      constructor
      · intro h
        have := hchord (j - 1) (i - 1) (by omega) (by omega) (h.symm hN)
        omega
      · intro h
        have e : i - 1 = j - 1 + 1 := by omega
        have := hp.adj (j - 1) (by omega)
        rw [e]; exact this.symm hN

/-! ## Dirac's lemma -/
theorem Clq_sub {N : List Nat} {s t : Nat} (h : Clq N t) (hs : ∀ i, s.testBit i = true → t.testBit i = true) : Clq N s := fun i hi j hj hne => h i (hs i hi) j (hs j hj) hne
theorem dirac {N : List Nat} (hN : VN N) (hno : ∀ l, ¬ HoleP N l) : ∀ (k s : Nat), s < 2 ^ N.length → pc s ≤ k → ∀ v w, s.testBit v = true → s.testBit w = true → w ≠ v → ¬ E N v w →
    ∃ z, s.testBit z = true ∧ z ≠ v ∧ ¬ E N v z ∧ Clq N (nb N z &&& s)
  | 0, s, hs, hk, v, w, hv, _, _, _ => by
    have : 0 < pc s := by
      have h4 : s < 4096 := Nat.lt_of_lt_of_le hs hN.pow
      rcases Nat.eq_zero_or_pos (pc s) with h | h
      · rw [(pc_zero h4).1 h] at hv; simp at hv
      · exact h
    omega
  | k + 1, s, hs, hk, v, w, hv, hw, hwv, hE => by
    have h12 := hN.le
    have hlt12 : ∀ i, s.testBit i = true → i < 12 := fun i hi => by have := bit_lt hs hi; omega
    let t := fun x => s.testBit x = true ∧ x ≠ v ∧ ¬ E N v x
    let C := Rch N t w
    let B := fun x => s.testBit x = true ∧ E N v x ∧ ∃ c, C c ∧ E N x c
    have hCt : ∀ c, C c → t c := fun c hc => hc.mem
    have hCw : C w := .base ⟨hw, hwv, hE⟩
    have hout : ∀ x c, s.testBit x = true → C c → E N c x → C x ∨ B x := fun x c hx hc he => by
      by_cases hvx : E N v x
      · exact .inr ⟨hx, hvx, c, hc, he.symm hN⟩
      · refine .inl (.step hc he ⟨hx, fun e => ?_, hvx⟩)
        subst e
        exact (hCt c hc).2.2 (he.symm hN)
    have hB : ∀ x y, B x → B y → x ≠ y → E N x y := fun x y hx hy hne => by
      obtain ⟨_, hx2, c, hc, hxc⟩ := hx
      obtain ⟨_, hy2, d, hd, hyd⟩ := hy
      refine Classical.byContradiction fun hxy => ?_
      obtain ⟨l, hl⟩ := hole_of_way hN (C := C) (fun c hc => ⟨(hCt c hc).2.2, (hCt c hc).2.1⟩) hx2 hy2 hne hxy (way_between hN hc hd hxc (hyd.symm hN))
      exact hno l hl
    let H := mkS fun x => C x ∨ B x
    have hH : ∀ i, H.testBit i = true ↔ C i ∨ B i := fun i => by
      rw [mkS_bit]
      refine ⟨fun h => h.2, fun h => ⟨?_, h⟩⟩
      rcases h with h | h
      · exact hlt12 i (hCt i h).1
      · exact hlt12 i h.1
    have hHs : ∀ i, H.testBit i = true → s.testBit i = true := fun i hi => by
      rcases (hH i).1 hi with h | h
      · exact (hCt i h).1
      · exact h.1
    have hvH : H.testBit v = false := by
      cases h : H.testBit v with
      | false => rfl
      | true =>
        rcases (hH v).1 h with h | h
        · exact absurd rfl (hCt v h).2.1
        · exact absurd rfl (h.2.1.ne hN)
    have hlt : pc H < pc s := pc_lt (fun i _ hi => hHs i hi) (hlt12 v hv) hvH hv
    have hHlt : H < 2 ^ N.length := sub_al.2 fun i hi => bit_lt hs (hHs i hi)
    -- what is simplicial in H and lies in C is simplicial in s
    have up : ∀ z, C z → Clq N (nb N z &&& H) → ∃ z, s.testBit z = true ∧ z ≠ v ∧ ¬ E N v z ∧ Clq N (nb N z &&& s) := fun z hz hq => by
      refine ⟨z, (hCt z hz).1, (hCt z hz).2.1, (hCt z hz).2.2, Clq_sub hq fun i hi => ?_⟩
      rw [Nat.testBit_and, Bool.and_eq_true] at hi ⊢
      exact ⟨hi.1, (hH i).2 (hout i z hi.2 hz hi.1)⟩
    by_cases h1 : ∃ u u', B u ∧ H.testBit u' = true ∧ u' ≠ u ∧ ¬ E N u u'
    · obtain ⟨u, u', hu, hu', hne, he⟩ := h1
      obtain ⟨z, hz, hzu, hze, hq⟩ := dirac hN hno k H hHlt (by omega) u u' ((hH u).2 (.inr hu)) hu' hne he
      rcases (hH z).1 hz with h | h
      · exact up z h hq
      · exact absurd (hB u z hu h hzu.symm) hze
    · by_cases h2 : ∃ c c', C c ∧ C c' ∧ c' ≠ c ∧ ¬ E N c c'
      · obtain ⟨c, c', hc, hc', hne, he⟩ := h2
        obtain ⟨z, hz, hzu, hze, hq⟩ := dirac hN hno k H hHlt (by omega) c c' ((hH c).2 (.inl hc)) ((hH c').2 (.inl hc')) hne he
        rcases (hH z).1 hz with h | h
        · exact up z h hq
        · refine absurd ⟨z, c, h, (hH c).2 (.inl hc), fun e => hzu e.symm, fun e => hze (e.symm hN)⟩ h1
      · refine up w hCw fun i hi j hj hne => ?_
        rw [Nat.testBit_and, Bool.and_eq_true] at hi hj
        refine Classical.byContradiction fun hij => ?_
        rcases (hH i).1 hi.2 with h | h
        · rcases (hH j).1 hj.2 with h' | h'
          · exact h2 ⟨i, j, h, h', hne, hij⟩
          · exact h1 ⟨j, i, h', hi.2, hne.symm, fun e => hij (E.symm hN e)⟩
        · exact h1 ⟨i, j, h, hj.2, hne, hij⟩
theorem simplicial {N : List Nat} (hN : VN N) (hno : ∀ l, ¬ HoleP N l) {s : Nat} (hs : s < 2 ^ N.length) (h0 : s ≠ 0) : ∃ z, s.testBit z = true ∧ Clq N (nb N z &&& s) := by
  by_cases h : ∃ v w, s.testBit v = true ∧ s.testBit w = true ∧ w ≠ v ∧ ¬ E N v w
  · obtain ⟨v, w, hv, hw, hne, he⟩ := h
    obtain ⟨z, hz, _, _, hq⟩ := dirac hN hno (pc s) s hs (Nat.le_refl _) v w hv hw hne he
    exact ⟨z, hz, hq⟩
  · have : ∃ z, s.testBit z = true := Classical.byContradiction fun hn => h0 (set_zero.2 fun i => by
      cases hb : s.testBit i with
      | false => rfl
      | true => exact absurd ⟨i, hb⟩ hn)
    obtain ⟨z, hz⟩ := this
    refine ⟨z, hz, fun i hi j hj hne => ?_⟩
    rw [Nat.testBit_and, Bool.and_eq_true] at hi hj
    exact Classical.byContradiction fun hij => h ⟨i, j, hi.2, hj.2, hne, hij⟩
theorem ordN_some {N : List Nat} (hN : VN N) (hno : ∀ l, ¬ HoleP N l) : ∀ (f left : Nat), left < 2 ^ N.length → pc left ≤ f → (ordN N f left).isSome = true
  | 0, left, hl, hf => by
    have h4 : left < 4096 := Nat.lt_of_lt_of_le hl hN.pow
    have : left = 0 := (pc_zero h4).1 (by omega)
    subst this
    simp [ordN]
  | f + 1, left, hl, hf => by
    have h12 := hN.le
    unfold ordN
    by_cases h0 : left = 0
    · rw [if_pos h0]; rfl
    · rw [if_neg h0]
      obtain ⟨z, hz, hq⟩ := simplicial hN hno hl h0
      have hz12 : z < 12 := by have := bit_lt hl hz; omega
      cases hfind : (els left).find? (fun i => cliq N (nb N i &&& left)) with
      | none =>
        rw [List.find?_eq_none] at hfind
        have := hfind z (mem_els.2 ⟨hz12, hz⟩)
        rw [(cliq_iff (Nat.lt_of_le_of_lt Nat.and_le_left (hN.nb_lt' z))).2 hq] at this
        exact absurd rfl this
      | some i =>
        have hm := mem_els.1 (List.mem_of_find?_eq_some hfind)
        have := ordN_some hN hno f (nSub left (2 ^ i)) (nSub_lt hl) (by have := pc_sub hm.2 hm.1; omega)
        simp only [Option.isSome_map]
        exact this
theorem ord_none {N : List Nat} (hN : VN N) (h : ordG N = none) : (firstH N).isSome = true := by
  cases hf : firstH N with
  | some r => rfl
  | none =>
    have := ordN_some hN ((firstH_none hN).1 hf) 12 (al N) (al_lt N) (pc_le _)
    unfold ordG at h
    rw [h] at this; cases this
end Go.Proofs.YtleiddajojgmmaaDoor

/- Three nodes that are apart. No program, no condition. -/
namespace Go.Proofs.YtleiddajojgmmaaDoor
open Go Go.RowKit VC
set_option linter.unusedSimpArgs false
set_option linter.unusedVariables false

/-- Not a node, nor a neighbour of it. -/
def away (N : List Nat) (z : Nat) : Nat := nSub (nSub (al N) (nb N z)) (2 ^ z)
theorem away_bit {N : List Nat} {z j : Nat} : (away N z).testBit j = true ↔ j < N.length ∧ ¬ E N z j ∧ j ≠ z := by
  unfold away E
  rw [nSub_bit, nSub_bit, al_bit, two_bit]
  cases h : (nb N z).testBit j <;> simp
  intro _
  constructor
  · intro h e; exact h e.symm
  · intro h e; exact h e.symm
/-- A way from x to y that avoids z and its neighbours. -/
def Link (N : List Nat) (z x y : Nat) : Prop := Rch N (fun j => (away N z).testBit j = true) x y
/-- Three nodes are apart. -/
structure AT (N : List Nat) (a b c : Nat) : Prop where
  ab : a ≠ b
  ac : a ≠ c
  bc : b ≠ c
  nab : ¬ E N a b
  nac : ¬ E N a c
  nbc : ¬ E N b c
  la : Link N a b c
  lb : Link N b a c
  lc : Link N c a b
theorem Rch.symm {N : List Nat} (hN : VN N) {t : Nat → Prop} {x y : Nat} (h : Rch N t x y) : Rch N t y x := by
  have key : ∀ {a}, Rch N t x a → ∀ {b}, Rch N t a b → Rch N t x b := fun h1 => by
    intro b h2
    induction h2 with
    | base _ => exact h1
    | step _ he ht ih => exact .step ih he ht
  have pre : ∀ {a b c}, t a → E N a b → Rch N t b c → Rch N t a c := fun ha he h => by
    induction h with
    | base hb => exact .step (.base ha) he hb
    | step _ he' ht ih => exact .step ih he' ht
  induction h with
  | base hx => exact .base hx
  | step h1 he ht ih => exact pre ht (he.symm hN) ih
theorem Rch.start {N : List Nat} {t : Nat → Prop} {x y : Nat} (h : Rch N t x y) : t x := by
  induction h with
  | base h => exact h
  | step _ _ _ ih => exact ih
open Classical in
theorem AT.lt {N : List Nat} {a b c : Nat} (h : AT N a b c) : a < N.length ∧ b < N.length ∧ c < N.length :=
  ⟨(away_bit.1 h.lc.start).1, (away_bit.1 h.la.start).1, (away_bit.1 h.la.mem).1⟩
end Go.Proofs.YtleiddajojgmmaaDoor

/- Records: slices of records (each of some cells), local copies of them, append of one. No condition. -/
namespace Go.Proofs.YtleiddajojgmmaaDoor.VC
open Go Go.RowKit
set_option linter.unusedSimpArgs false
set_option linter.unusedVariables false

theorem add_add (a : Addr) (i j : Nat) : (a.add i).add j = a.add (i + j) := by
  unfold Addr.add
  split <;> split <;> simp_all <;> omega
theorem Addr.add0 (g j : Nat) : (⟨g, 0, none⟩ : Addr).add j = ⟨g, j, none⟩ := by unfold Addr.add; split <;> simp_all
/-- A slice whose elements have the cells f x. -/
def SlR {α : Type} (f : α → List Value) (w : World) (v : Value) (xs : List α) : Prop := SlC w v xs.length (xs.flatMap f)
section
variable {α : Type} {f : α → List Value}
theorem SlR.grow {w w' : World} {v : Value} {xs : List α} (h : SlR f w v xs) (hf : Grow w w') : SlR f w' v xs := SlC.grow h hf
theorem SlR.dr {w : World} {v : Value} {xs : List α} (h : SlR f w v xs) (m : Nat) : SlR f (dr w m) v xs := SlC.dr h m
theorem SlR.nil (w : World) : SlR f w (.slice none 0 0) [] := SlC.nil w
theorem SlR.one {w : World} {v : Value} {xs : List α} (h : SlR f w v xs) : oneV v := SlC.one h
theorem SlR.len_le {w : World} {v : Value} {xs : List α} (h : SlR f w v xs) : xs.length ≤ 9223372036854775807 := SlC.len_le h
theorem SlR.ln {w : World} {v : Value} {xs : List α} (h : SlR f w v xs) {K : Nat → Prop} (hk : K xs.length) : ∃ (a : Option Addr) (m c : Nat), v = .slice a m c ∧ K m := SlC.ln h hk
theorem flat_len {xs : List α} {k : Nat} (hf : ∀ x, (f x).length = k) : (xs.flatMap f).length = xs.length * k := by
  induction xs with
  | nil => simp
  | cons x r ih => rw [List.flatMap_cons, List.length_append, ih, hf, List.length_cons, Nat.add_mul]; omega
theorem flat_get {xs : List α} {k : Nat} (hf : ∀ x, (f x).length = k) {i j : Nat} (hi : i < xs.length) (hj : j < k) : (xs.flatMap f)[i * k + j]? = (f xs[i])[j]? := by
  induction xs generalizing i with
  | nil => simp at hi
  | cons x r ih =>
    rw [List.flatMap_cons]
    cases i with
    | zero =>
      rw [List.getElem?_append_left (by rw [hf]; omega)]
      simp
    | succ i =>
      have e : (i + 1) * k + j = k + (i * k + j) := by rw [Nat.add_mul]; omega
      rw [e, List.getElem?_append_right (by rw [hf]; omega), hf, show k + (i * k + j) - k = i * k + j by omega, ih (by simpa using hi)]
      simp
/-- An element is read: all its cells. -/
theorem SlR.rd {w : World} {v : Value} {xs : List α} {k : Nat} (h : SlR f w v xs) (hf : ∀ x, (f x).length = k) {i : Nat} {j : Int} (hj : j = (i : Int)) (hi : i < xs.length) {K : List Value → Prop} (hk : K (f xs[i])) :
    ∃ (a : Addr) (m c : Nat), v = .slice (some a) m c ∧ ((0 : Int) ≤ j ∧ j < (m : Int)) ∧ ∃ cs : List Value, cs.length = k ∧ (∀ t u, cs[t]? = some u → w.cell? (Addr.add (a.add (Int.toNat j * k)) t) = some u) ∧ K cs := by
  subst hj
  obtain ⟨a, c, rfl, h1, h2, h3, h4⟩ := h.ex
  have hsome : ∃ b, a = some b := by
    cases a with
    | none =>
      have := h3 rfl; omega
    | some b => exact ⟨b, rfl⟩
  obtain ⟨b, rfl⟩ := hsome
  refine ⟨b, _, c, rfl, ⟨by omega, by omega⟩, f xs[i], hf _, fun t u ht => ?_, hk⟩
  have htk : t < k := by
    have := (List.getElem?_eq_some_iff.1 ht).1
    rwa [hf] at this
  obtain ⟨b', hb, hc⟩ := h4 (i * k + t) u (by rw [flat_get hf hi htk]; exact ht)
  cases hb
  rw [add_add, Int.toNat_natCast]
  exact hc
/-- One cell of an element. -/
theorem SlR.rdc {w : World} {v : Value} {xs : List α} {k : Nat} (h : SlR f w v xs) (hf : ∀ x, (f x).length = k) {i t : Nat} {j : Int} {u : Value} (hj : j = (i : Int)) (hi : i < xs.length) (hu : (f xs[i])[t]? = some u) {K : Addr → Prop} (hk : ∀ p, w.cell? (p.add t) = some u → K p) :
    ∃ (a : Addr) (m c : Nat), v = .slice (some a) m c ∧ ((0 : Int) ≤ j ∧ j < (m : Int)) ∧ K (a.add (Int.toNat j * k)) := by
  obtain ⟨a, m, c, e, hb, cs, hl, hcs, rfl⟩ := h.rd hf hj hi (K := fun cs => cs = f xs[i]) rfl
  exact ⟨a, m, c, e, hb, hk _ (hcs t u hu)⟩
/-- The beginning of a slice of records. -/
theorem SlR.upto {w : World} {v : Value} {xs : List α} {k : Nat} (h : SlR f w v xs) (hf : ∀ x, (f x).length = k) {i : Nat} {ik : IntKind} {z : Int} (hz : z = (i : Int)) (hi : i ≤ xs.length) {K : Value → Prop} (hk : ∀ v', SlR f w v' (xs.take i) → K v') :
    ∃ (a : Option Addr) (n c : Nat), v = .slice a n c ∧ ∃ l hh m : Nat, sbR none (some (.int ik z)) none n c l hh m ∧ K (.slice (if m = l then a else a.map (·.add (l * k))) (hh - l) (m - l)) := by
  subst hz
  obtain ⟨a, c, rfl, h1, h2, h3, h4⟩ := h.ex
  refine ⟨a, _, c, rfl, 0, i, c, ⟨rfl, rfl, rfl, by simp, by omega, by omega, by omega⟩, hk _ ?_⟩
  refine ⟨a, c, ?_, by simp; omega, h2, h3, fun j u hj => ?_⟩
  · have : (xs.take i).length = i := by simp; omega
    rw [this]
    by_cases hc : c = 0
    · simp [hc]
    · rw [if_neg hc]
      cases a <;> simp [Addr.add]
  · refine h4 j u ?_
    have e : xs.flatMap f = (xs.take i).flatMap f ++ (xs.drop i).flatMap f := by rw [← List.flatMap_append, List.take_append_drop]
    have hl := (List.getElem?_eq_some_iff.1 hj).1
    rw [e, List.getElem?_append_left hl]
    exact hj
end
/-! ## Slices of elements that are read by a relation -/
/-- A slice of elements of k cells each; the cells of an element stand in the relation rep to what it reads as. -/
structure SlX {α : Type} (k : Nat) (rep : World → List Value → α → Prop) (w : World) (v : Value) (xs : List α) : Prop where
  ex : ∃ (a : Option Addr) (c : Nat), v = .slice a xs.length c ∧ xs.length ≤ c ∧ c ≤ 9223372036854775807 ∧ (a = none → c = 0) ∧ ∀ i (hi : i < xs.length), ∃ b cs, a = some b ∧ cs.length = k ∧ (∀ t u, cs[t]? = some u → w.cell? (b.add (i * k + t)) = some u) ∧ rep w cs xs[i]
def Mono {α : Type} (rep : World → List Value → α → Prop) : Prop := ∀ w w' cs x, Grow w w' → rep w cs x → rep w' cs x
section
variable {α : Type} {k : Nat} {rep : World → List Value → α → Prop}
theorem SlX.nil (w : World) : SlX k rep w (.slice none 0 0) [] := ⟨none, 0, rfl, by simp, by omega, fun _ => rfl, fun i hi => by simp at hi⟩
theorem SlX.grow (hm : Mono rep) {w w' : World} {v : Value} {xs : List α} (h : SlX k rep w v xs) (hf : Grow w w') : SlX k rep w' v xs := by
  obtain ⟨a, c, e, h1, h2, h3, h4⟩ := h.ex
  refine ⟨a, c, e, h1, h2, h3, fun i hi => ?_⟩
  obtain ⟨b, cs, e1, e2, e3, e4⟩ := h4 i hi
  exact ⟨b, cs, e1, e2, fun t u ht => hf.cell (e3 t u ht), hm _ _ _ _ hf e4⟩
theorem SlX.one {w : World} {v : Value} {xs : List α} (h : SlX k rep w v xs) : oneV v := by
  obtain ⟨a, c, rfl, _⟩ := h.ex; exact ⟨rfl, rfl⟩
theorem SlX.len_le {w : World} {v : Value} {xs : List α} (h : SlX k rep w v xs) : xs.length ≤ 9223372036854775807 := by
  obtain ⟨a, c, rfl, h1, h2, _⟩ := h.ex; omega
theorem SlX.ln {w : World} {v : Value} {xs : List α} (h : SlX k rep w v xs) {K : Nat → Prop} (hk : K xs.length) : ∃ (a : Option Addr) (m c : Nat), v = .slice a m c ∧ K m := by
  obtain ⟨a, c, rfl, _⟩ := h.ex; exact ⟨a, xs.length, c, rfl, hk⟩
/-- An element is read: all its cells. -/
theorem SlX.rd {w : World} {v : Value} {xs : List α} (h : SlX k rep w v xs) {i : Nat} {j : Int} (hj : j = (i : Int)) (hi : i < xs.length) {K : List Value → Prop} (hk : ∀ cs, cs.length = k → rep w cs xs[i] → K cs) :
    ∃ (a : Addr) (m c : Nat), v = .slice (some a) m c ∧ ((0 : Int) ≤ j ∧ j < (m : Int)) ∧ ∃ cs : List Value, cs.length = k ∧ (∀ t u, cs[t]? = some u → w.cell? (Addr.add (a.add (Int.toNat j * k)) t) = some u) ∧ K cs := by
  subst hj
  obtain ⟨a, c, rfl, h1, h2, h3, h4⟩ := h.ex
  obtain ⟨b, cs, rfl, e2, e3, e4⟩ := h4 i hi
  refine ⟨b, _, c, rfl, ⟨by omega, by omega⟩, cs, e2, fun t u ht => ?_, hk cs e2 e4⟩
  rw [add_add, Int.toNat_natCast]
  exact e3 t u ht
/-- The place of an element. -/
theorem SlX.at {w : World} {v : Value} {xs : List α} (h : SlX k rep w v xs) {i : Nat} {j : Int} (hj : j = (i : Int)) (hi : i < xs.length) {K : Addr → Prop} (hk : ∀ p cs, cs.length = k → (∀ t u, cs[t]? = some u → w.cell? (p.add t) = some u) → rep w cs xs[i] → K p) :
    ∃ (a : Addr) (m c : Nat), v = .slice (some a) m c ∧ ((0 : Int) ≤ j ∧ j < (m : Int)) ∧ K (a.add (Int.toNat j * k)) := by
  subst hj
  obtain ⟨a, c, rfl, h1, h2, h3, h4⟩ := h.ex
  obtain ⟨b, cs, rfl, e2, e3, e4⟩ := h4 i hi
  refine ⟨b, _, c, rfl, ⟨by omega, by omega⟩, hk _ cs e2 (fun t u ht => ?_) e4⟩
  rw [add_add, Int.toNat_natCast]
  exact e3 t u ht
theorem SlX.slR {f : α → List Value} (hf : ∀ x, (f x).length = k) {w : World} {v : Value} {xs : List α} (h : SlX k (fun _ cs x => cs = f x) w v xs) : SlR f w v xs := by
  obtain ⟨a, c, rfl, h1, h2, h3, h4⟩ := h.ex
  refine ⟨a, c, rfl, h1, h2, h3, fun j u hj => ?_⟩
  have hlt := (List.getElem?_eq_some_iff.1 hj).1
  rw [flat_len hf] at hlt
  have hk : 0 < k := Nat.pos_of_ne_zero fun e => by subst e; simp at hlt
  have hi : j / k < xs.length := Nat.div_lt_of_lt_mul (by rw [Nat.mul_comm]; exact hlt)
  have ht := Nat.mod_lt j hk
  have e : j / k * k + j % k = j := by rw [Nat.mul_comm]; exact Nat.div_add_mod j k
  obtain ⟨b, cs, rfl, e2, e3, rfl⟩ := h4 (j / k) hi
  rw [← e, flat_get hf hi ht] at hj
  have := e3 (j % k) u hj
  rw [e] at this
  exact ⟨b, rfl, this⟩
end
def spF (p : Int × Int) : List Value := [.int .i64 p.1, .int .i64 p.2]
theorem spF_len (p : Int × Int) : (spF p).length = 2 := rfl
theorem spF_one (p : Int × Int) : ∀ u ∈ spF p, u.oneCell' = true := by
  intro u hu
  simp [spF] at hu
  rcases hu with rfl | rfl <;> rfl
def opF (o : Int × Int × Int) : List Value := [.int .i64 o.1, .int .i64 o.2.1, .int .i64 o.2.2]
theorem opF_len (o : Int × Int × Int) : (opF o).length = 3 := rfl
theorem opF_one (o : Int × Int × Int) : ∀ u ∈ opF o, u.oneCell' = true := by
  intro u hu
  simp [opF] at hu
  rcases hu with rfl | rfl | rfl <;> rfl
/-! ## Local records -/
theorem store_row {P : Program} {w : World} {g : Nat} {cur cs : Array Value} {t : TypeId} (hg : w.heap[g]? = some (.cells cur t (0, 0))) (hl : cs.size = cur.size) (h1 : ∀ v ∈ cs.toList, v.oneCell' = true) :
    ∃ w', (storeCells ⟨g, 0, none⟩ cs.toList).run P w = .ok () w' ∧ Fr (fun k => k = g) w w' ∧ w'.heap[g]? = some (.cells cs t (0, 0)) := by
  have hr := run_storeCells_at P g 0 t cs.toList 0 cur w hg (by simp; omega) h1
  have e : (cur.toList.take (0 + 0) ++ cs.toList ++ cur.toList.drop (0 + 0 + cs.toList.length)).toArray = cs := by
    apply Array.ext'
    have : cur.toList.drop (0 + 0 + cs.toList.length) = [] := List.drop_eq_nil_of_le (by simp; omega)
    rw [this]
    simp
  rw [e] at hr
  refine ⟨_, hr, ⟨rfl, rfl, rfl, by simp [World.setRow], fun k _ hk => setRow_other w g k cs hk⟩, setRow_heap w g cur cs t (0, 0) hg⟩
theorem row_cells {w : World} {g : Nat} {cs : Array Value} {t : TypeId} (hg : w.heap[g]? = some (.cells cs t (0, 0))) : ∀ (j : Nat) (v : Value), cs.toList[j]? = some v → w.cell? (Addr.add ⟨g, 0, none⟩ j) = some v := fun j v hj => by
  rw [Addr.add0, cell_of_row w g j cs t (0, 0) hg]
  simpa using hj
theorem grow_row {w w' : World} (h : Grow w w') {g : Nat} {o : Obj} (hg : w.heap[g]? = some o) : w'.heap[g]? = some o := (h.block g (Array.getElem?_eq_some_iff.1 hg).1).trans hg
/-- A record laid on the heap as a variable, and set. -/
theorem setR {P : Program} {w w1 : World} {zs : Array Value} {cs : List Value} {t : TypeId} (hw : w1 = w.alloc (.cells zs t)) (hl : cs.length = zs.size) (h1 : ∀ v ∈ cs, v.oneCell' = true) {K : World → Prop}
    (hk : ∀ w2, Grow w w2 → w.heap.size < w2.heap.size → (∀ j u, cs[j]? = some u → w2.cell? (Addr.add ⟨w.heap.size, 0, none⟩ j) = some u) → K w2) :
    ∃ cs' : Array Value, (Value.agg cs.toArray) = Value.agg cs' ∧ cs'.size = zs.size ∧ ∃ w2 : World, (storeCells ⟨w.heap.size, 0, none⟩ cs'.toList).run P w1 = .ok () w2 ∧ K w2 := by
  have hrow : w1.heap[w.heap.size]? = some (.cells zs t (0, 0)) := by subst hw; exact heap_alloc_new w _
  obtain ⟨w2, hr, hf, hrow2⟩ := store_row (P := P) (cs := cs.toArray) hrow (by simpa using hl) (by simpa using h1)
  refine ⟨_, rfl, by simpa using hl, w2, hr, hk w2 ((alloc_grow hw).fr hf fun i hi e => by omega) ?_ fun j u hj => row_cells hrow2 j u (by simpa using hj)⟩
  have := hf.size
  have := alloc_size hw
  omega
/-! ## append of one record -/
theorem fold_zip {off : Nat} : ∀ (l : List Value) (k : Nat) (A : Array Value), off + k + l.length ≤ A.size → ∀ j, ((l.zipIdx k).foldl (fun (cs : Array Value) (p : Value × Nat) => cs.setIfInBounds (off + p.2) p.1) A)[j]? = if off + k ≤ j ∧ j < off + k + l.length then l[j - (off + k)]? else A[j]?
  | [], k, A, h, j => by
    simp
    intro h1 h2
    omega
  | v :: l, k, A, h, j => by
    simp only [List.length_cons] at h
    rw [List.zipIdx_cons, List.foldl_cons, fold_zip l (k + 1) _ (by simp; omega) j]
    simp only [List.length_cons]
    by_cases h1 : off + (k + 1) ≤ j ∧ j < off + (k + 1) + l.length
    · rw [if_pos h1, if_pos (by omega), show j - (off + k) = (j - (off + (k + 1))) + 1 by omega, List.getElem?_cons_succ]
    · rw [if_neg h1]
      by_cases h2 : j = off + k
      · subst h2
        rw [if_pos (by omega)]
        simp [Array.getElem?_setIfInBounds]
        omega
      · rw [if_neg (by omega), Array.getElem?_setIfInBounds_ne (by omega)]
theorem fill_one {size : Nat} {A cs : Array Value} (h1 : cs.size = size) (h2 : A.size = size) : Instr.fill (fun i => some (i * size, size)) A [(0, .agg cs)] = some cs := by
  have hc : (Value.agg cs).cells = cs := rfl
  simp only [Instr.fill, hc]
  rw [if_neg (by simp; omega)]
  congr 1
  apply Array.ext_getElem?
  intro j
  have := fold_zip (off := 0 * size) cs.toList 0 A (by simp; omega) j
  rw [← Array.foldl_toList, Array.toList_zipIdx]
  refine Eq.trans ?_ (this.trans ?_)
  · rfl
  · simp only [Nat.zero_mul, Nat.zero_add, Array.length_toList, Nat.sub_zero]
    by_cases hj : j < cs.size
    · rw [if_pos (by omega)]; simp
    · rw [if_neg (by omega)]
      simp [Array.getElem?_eq_none (Nat.le_of_not_lt hj), show A.size ≤ j by omega]
/-- A slice literal of one record. -/
theorem bs1 {P : Program} {t e : TypeId} {sz bytes : Nat} {z : Value} (hT : ElT P t e sz bytes z) (hsz : 0 < sz) (hsz2 : sz ≤ 16777216) {cs : Array Value} (hcs : cs.size = sz) (w : World) {K : Value → World → Prop}
    (hk : ∀ w', w' = w.alloc (.cells cs e) → K (.slice (some ⟨w.heap.size, 0, none⟩) 1 1) w') : ∃ v : Value, ∃ w' : World, (Instr.buildSlice t 1 #[(0, .agg cs)]).run P w = .ok v w' ∧ K v w' := by
  obtain ⟨i, hi, hz, hsize, hby⟩ := hT.info
  refine ⟨_, _, ?_, hk _ rfl⟩
  have hs : (sizeOf e).run P w = .ok sz w := by simp [sizeOf, typeInfo, hi, hsize]
  have hzr : (zeroValue e).run P w = .ok z w := by simp [zeroValue, typeInfo, hi, hz]
  simp only [Instr.buildSlice, Sem.run_bind, underlying_run hT.und, Result.andThen_ok, hs, Nat.one_mul]
  rw [if_neg (by omega), if_neg (by omega)]
  have hf := fill_one (size := sz) (A := (Array.range sz).map fun j => z.cells[j % z.cells.size]!) hcs (by simp)
  simp only [Sem.run_bind, hzr, Result.andThen_ok, Sem.run_pure, hf, newRow, run_newObj]
  rfl
/-- append of one record. -/
theorem pappR {α : Type} {f : α → List Value} {P : Program} {t ty e : TypeId} {sz bytes : Nat} {z : Value} (hT : ElT P t e sz bytes z) (hsz : 0 < sz) (hf : ∀ x, (f x).length = sz) (h1 : ∀ x, ∀ u ∈ f x, u.oneCell' = true) {w w1 : World} {B : Nat} {v : Value} {x : α} {xs : List α}
    (hw : w1 = w.alloc (.cells (f x).toArray e)) (hown : Own w B e sz v xs.length (xs.flatMap f)) (hB : B ≤ w.heap.size) (hlen : (xs.length + 1) * bytes ≤ 140737488355328) (hb : 0 < bytes) {K : Value → World → Prop}
    (hk : ∀ v' w', Own w' B e sz v' (xs ++ [x]).length ((xs ++ [x]).flatMap f) → Fr (fun k => some k = v.ownBlock) w1 w' → K v' w') : PApp P t ty v (.slice (some ⟨w.heap.size, 0, none⟩) 1 1) w1 K := by
  have hl := Own.lit (B := w.heap.size) (n := 1) (sz := sz) hw (Nat.le_refl _) (by omega) (by simp [hf])
  refine papp hT hsz (hown.grow (alloc_grow hw)) hl.slC (by simp [hf]) (by simpa using h1 x) (by rw [alloc_size hw]; omega) hlen hb ?_
  intro v' w' ho hfr _
  refine hk v' w' ?_ hfr
  have e1 : (xs ++ [x]).length = xs.length + 1 := by simp
  have e2 : (xs ++ [x]).flatMap f = xs.flatMap f ++ (f x).toArray.toList := by simp
  rw [e1, e2]
  exact ho
theorem Own.slR {α : Type} {f : α → List Value} {w : World} {B : Nat} {e : TypeId} {sz : Nat} {v : Value} {xs : List α} (h : Own w B e sz v xs.length (xs.flatMap f)) : SlR f w v xs := h.slC
end Go.Proofs.YtleiddajojgmmaaDoor.VC

/- Contracts of package chordal: what is reached, three nodes that are apart. The table of bits is laid (Tab). -/
namespace Go.Proofs.YtleiddajojgmmaaDoor
open Go Go.RowKit VC
set_option linter.unusedSimpArgs false
set_option linter.unusedVariables false

/-! ## Arrays of three -/
def v3 (a b c : Nat) : Array Value := #[.int .i64 (a : Int), .int .i64 (b : Int), .int .i64 (c : Int)]
end Go.Proofs.YtleiddajojgmmaaDoor

/- Elimination orders: a hole hinders every one; the greedy one is the least. No program, no condition. -/
namespace Go.Proofs.YtleiddajojgmmaaDoor
open Go Go.RowKit VC
set_option linter.unusedSimpArgs false
set_option linter.unusedVariables false

theorem and_self_sub {N : List Nat} (hN : VN N) (i left : Nat) : nb N i &&& nSub left (2 ^ i) = nb N i &&& left := by
  apply Nat.eq_of_testBit_eq
  intro j
  rw [Nat.testBit_and, Nat.testBit_and, nSub_bit, two_bit]
  by_cases e : i = j
  · subst e; rw [hN.irr']; simp
  · simp [e]
/-- A node of a hole cannot be eliminated while all of the hole is left. -/
theorem hole_core {N : List Nat} (hN : VN N) {l : List Int} (h : HoleP N l) {left : Nat} (hin : ∀ i, i < l.length → left.testBit (gi l i).toNat = true) {k : Nat} (hk : k < l.length) : ¬ Clq N (nb N (gi l k).toNat &&& left) := fun hq => by
  have h4 := h.four
  have adj : ∀ i j, i < l.length → j < i → (i - j = 1 ∨ i - j = l.length - 1) → E N (gi l i).toNat (gi l j).toNat := fun i j hi hj hd => (h.adj i j hi hj).2 hd
  have nadj : ∀ i j, i < l.length → j < i → ¬ (i - j = 1 ∨ i - j = l.length - 1) → ¬ E N (gi l i).toNat (gi l j).toNat := fun i j hi hj hd he => hd ((h.adj i j hi hj).1 he)
  have use : ∀ a b, a < l.length → b < a → E N (gi l k).toNat (gi l a).toNat → E N (gi l k).toNat (gi l b).toNat → ¬ (a - b = 1 ∨ a - b = l.length - 1) → False := fun a b ha hb h1 h2 h3 => by
    refine nadj a b ha hb h3 (hq _ ?_ _ ?_ ?_)
    · rw [Nat.testBit_and, Bool.and_eq_true]; exact ⟨h1, hin a ha⟩
    · rw [Nat.testBit_and, Bool.and_eq_true]; exact ⟨h2, hin b (by omega)⟩
    · intro e
      have := h.ne a b ha hb
      have h5 := h.rng a ha
      have h6 := h.rng b (by omega)
      omega
  by_cases h0 : k = 0
  · subst h0
    exact use (l.length - 1) 1 (by omega) (by omega) ((adj (l.length - 1) 0 (by omega) (by omega) (by omega)).symm hN) ((adj 1 0 (by omega) (by omega) (by omega)).symm hN) (by omega)
  · by_cases h1 : k = l.length - 1
    · subst h1
      exact use (l.length - 1 - 1) 0 (by omega) (by omega) (adj _ _ (by omega) (by omega) (by omega)) (adj _ _ (by omega) (by omega) (by omega)) (by omega)
    · exact use (k + 1) (k - 1) (by omega) (by omega) ((adj (k + 1) k (by omega) (by omega) (by omega)).symm hN) (adj k (k - 1) (by omega) (by omega) (by omega)) (by omega)
theorem find_first {left i : Nat} {q : Nat → Bool} (h : (els left).find? q = some i) : (left.testBit i = true ∧ i < 12 ∧ q i = true) ∧ ∀ j, j < i → left.testBit j = true → q j = false := by
  unfold els at h
  rw [List.find?_filter, List.find?_range_eq_some] at h
  obtain ⟨h1, h2, h3⟩ := h
  have h1 : left.testBit i = true ∧ q i = true := by simpa using h1
  refine ⟨⟨h1.1, by simpa using h2, h1.2⟩, fun j hj hb => ?_⟩
  have := h3 j hj
  simpa [hb] using this
theorem ord_el {N : List Nat} (hN : VN N) : ∀ (f left : Nat) (r : List Nat), left < 2 ^ N.length → ordN N f left = some r → elN N left (ofN r) = true
  | 0, left, r, hl, ho => by
    unfold ordN at ho
    split at ho
    · rename_i h0
      subst h0
      simp at ho
      subst ho
      rfl
    · cases ho
  | f + 1, left, r, hl, ho => by
    unfold ordN at ho
    split at ho
    · rename_i h0
      subst h0
      simp at ho
      subst ho
      rfl
    · split at ho
      · cases ho
      · rename_i i hi
        simp only [Option.map_eq_some_iff] at ho
        obtain ⟨r', hr', rfl⟩ := ho
        obtain ⟨⟨i1, i2, i3⟩, -⟩ := find_first hi
        have := ord_el hN f _ r' (nSub_lt hl) hr'
        have hil := bit_lt hl i1
        show elN N left ((i : Int) :: ofN r') = true
        simp only [elN, Int.toNat_natCast, and_self_sub hN, i1, i3, this, Bool.and_true, Bool.and_eq_true, decide_eq_true_eq]
        exact ⟨by omega, by omega⟩
theorem ordG_el {N : List Nat} (hN : VN N) {r : List Nat} (h : ordG N = some r) : elN N (al N) (ofN r) = true := ord_el hN 12 _ r (al_lt N) h
theorem el_len {N : List Nat} (hN : VN N) {l : List Int} (h : elN N (al N) l = true) : l.length = N.length := by
  rw [← pc_al hN]; exact (el_true hN l _ (al_lt N) h).2.1
theorem firstH_hole {N : List Nat} {r : List Nat} (h : firstH N = some r) : HoleP N (ofN r) := by
  unfold firstH at h
  obtain ⟨k, -, hk⟩ := List.exists_of_findSome?_eq_some h
  split at hk
  · exact (holeS_sound (by omega) hk).1
  · cases hk
end Go.Proofs.YtleiddajojgmmaaDoor

/- Colourings: what a list must be to be one, the search in depth, that a graph with an order has one with as many colours as a clique has nodes. No program, no condition. -/
namespace Go.Proofs.YtleiddajojgmmaaDoor
open Go Go.RowKit VC
set_option linter.unusedSimpArgs false
set_option linter.unusedVariables false

/-- A colouring with colours from 0 to 11. -/
structure ColP (N : List Nat) (l : List Int) : Prop where
  len : l.length = N.length
  rng : ∀ i, i < l.length → 0 ≤ gi l i ∧ gi l i ≤ 11
  prop : ∀ i j, i < l.length → E N i j → gi l j ≠ gi l i
open Classical in
theorem ColP.take {N : List Nat} (hN : VN N) {l : List Int} : ColP N (l.take 14) ↔ ColP N l := by
  have h12 := hN.le
  by_cases hl : l.length ≤ 14
  · rw [List.take_of_length_le hl]
  · constructor
    · intro h
      have := h.len
      simp at this; omega
    · intro h
      have := h.len; omega
/-! ## The search -/
/-! ## A colouring along the order -/
end Go.Proofs.YtleiddajojgmmaaDoor

/- Contracts: slices.Sort of ints of the call's own; covers by cliques, and their reference. The table of bits is laid (Tab). -/
namespace Go.Proofs.YtleiddajojgmmaaDoor
open Go Go.RowKit VC
set_option linter.unusedSimpArgs false
set_option linter.unusedVariables false

theorem sort_c {w : World} {B : Nat} {v : Value} {xs : List Int} (h : OwnI6 w B v xs) (hlen : xs.length < 4611686018427387904) : Calls Tryd.prog 18 #[v] w fun e w' => e = .returned (.tuple #[]) ∧ OwnI6 w' B v (xs.mergeSort fun x y => decide (x ≤ y)) ∧ Fr (fun k => some k = v.ownBlock) w w' := by
  rcases h.2 with ⟨rfl, h0⟩ | ⟨g, cap, cur, rfl, hb, hgg, hnc, hcm, hcs, htake⟩
  · have hx : xs = [] := by simpa using h0
    subst hx
    refine (Tryd.slices_Sort_int_none none 0 w).mono ?_
    rintro e w' ⟨rfl, rfl⟩
    exact ⟨rfl, by simpa using h, Fr.refl _ _⟩
  · have ht : cur.toList.take xs.length = xs.map (Value.int .i64) := by
      have h := htake
      rw [Nat.mul_one] at h
      exact h
    have hH := Go.holds_of_blockI hgg ht
    refine (Tryd.slices_Sort_int g 0 cap xs w hH (Array.getElem?_eq_some_iff.1 hgg).1 hlen).mono ?_
    rintro e w' ⟨rfl, n, os, rfl⟩
    have hl : (xs.mergeSort fun x y => decide (x ≤ y)).length = xs.length := by simp
    refine ⟨rfl, ?_, Fr.of_grown (Go.grownBy_sortedI _)⟩
    have := Go.ownsRow_sortedI (base := B) (n := n) (os := os) (ss := xs) (ts := xs.mergeSort fun x y => decide (x ≤ y)) (e := 3) (cap := cap) hl hb hgg hnc hcm hcs
    unfold OwnI6
    rw [hl]
    exact this
/-! ## The reference -/
end Go.Proofs.YtleiddajojgmmaaDoor

/- Cliques in a row: the search in depth; a chordal graph has at most as many greatest cliques as nodes. No program, no condition. -/
namespace Go.Proofs.YtleiddajojgmmaaDoor
open Go Go.RowKit VC
set_option linter.unusedSimpArgs false
set_option linter.unusedVariables false

/-- A node with its neighbours that are left. -/
def eclq (N : List Nat) (left i : Nat) : Nat := 2 ^ i ||| (nb N i &&& left)
theorem eclq_bit {N : List Nat} {left i j : Nat} : (eclq N left i).testBit j = true ↔ j = i ∨ (E N i j ∧ left.testBit j = true) := by
  unfold eclq E
  rw [Nat.testBit_or, two_bit, Bool.or_eq_true, decide_eq_true_eq, Nat.testBit_and, Bool.and_eq_true]
  constructor
  · rintro (h | h)
    · exact .inl h.symm
    · exact .inr h
  · rintro (h | h)
    · exact .inl h.symm
    · exact .inr h
def ecl (N : List Nat) : Nat → List Nat → List Nat
  | _, [] => []
  | left, i :: r => eclq N left i :: ecl N (nSub left (2 ^ i)) r
theorem ecl_len (N : List Nat) : ∀ (left : Nat) (r : List Nat), (ecl N left r).length = r.length
  | _, [] => rfl
  | left, i :: r => by simp [ecl, ecl_len N _ r]
theorem maxq_max {N : List Nat} (hN : VN N) {s K : Nat} (hs : s < 2 ^ N.length) (hq : maxq N s = true) (hK : K < 2 ^ N.length) (hKq : Clq N K) (hsub : ∀ i, s.testBit i = true → K.testBit i = true) : s = K := by
  have h12 := hN.le
  apply Nat.eq_of_testBit_eq
  intro k
  cases hb : s.testBit k with
  | true => exact (hsub k hb).symm
  | false =>
    cases hk : K.testBit k with
    | false => rfl
    | true =>
      have hkl := bit_lt hK hk
      unfold maxq at hq
      rw [Bool.and_eq_true, List.all_eq_true] at hq
      have := hq.2 k (mem_els.2 ⟨by omega, by rw [nSub_bit, al_bit, hb]; simpa using hkl⟩)
      simp only [Bool.not_eq_true', decide_eq_false_iff_not] at this
      refine absurd (sub_zero.2 fun j hj => ?_) this
      exact hKq k hk j (hsub j hj) fun e => by subst e; rw [hb] at hj; cases hj
theorem eclq_clq {N : List Nat} (hN : VN N) {left i : Nat} (hi : i < N.length) (hq : cliq N (nb N i &&& left) = true) : Clq N (eclq N left i) ∧ eclq N left i < 2 ^ N.length := by
  have h1 := (cliq_iff (Nat.lt_of_le_of_lt Nat.and_le_left (hN.nb_lt' i))).1 hq
  refine ⟨fun a ha b hb hne => ?_, Nat.or_lt_two_pow (Nat.pow_lt_pow_right (by omega) hi) (Nat.lt_of_le_of_lt Nat.and_le_left (hN.nb_lt i))⟩
  have mem : ∀ j, E N i j → left.testBit j = true → (nb N i &&& left).testBit j = true := fun j h1 h2 => by rw [Nat.testBit_and, h2]; simpa [E] using h1
  rcases eclq_bit.1 ha with ha | ha
  · rcases eclq_bit.1 hb with hb | hb
    · exact absurd (hb.trans ha.symm) hne
    · subst ha; exact hb.1
  · rcases eclq_bit.1 hb with hb | hb
    · subst hb; exact ha.1.symm hN
    · exact h1 a (mem a ha.1 ha.2) b (mem b hb.1 hb.2) hne
theorem max_ecl {N : List Nat} (hN : VN N) : ∀ (f left : Nat) (r : List Nat), left < 2 ^ N.length → ordN N f left = some r → ∀ s, s < 2 ^ N.length → s ≠ 0 → maxq N s = true → (∀ i, s.testBit i = true → left.testBit i = true) → s ∈ ecl N left r
  | f, left, r, hl, ho, s, hs, h0, hq, hsub => by
    have hne : left ≠ 0 := fun e => by
      subst e
      exact h0 (set_zero.2 fun i => by
        cases hb : s.testBit i with
        | false => rfl
        | true => have := hsub i hb; simp at this)
    match f with
    | 0 => unfold ordN at ho; rw [if_neg hne] at ho; cases ho
    | f + 1 =>
      unfold ordN at ho
      rw [if_neg hne] at ho
      cases hf : (els left).find? (fun i => cliq N (nb N i &&& left)) with
      | none => rw [hf] at ho; cases ho
      | some i =>
        rw [hf] at ho
        simp only [Option.map_eq_some_iff] at ho
        obtain ⟨r', hr', rfl⟩ := ho
        obtain ⟨⟨i1, i2, i3⟩, -⟩ := find_first hf
        have hil := bit_lt hl i1
        obtain ⟨hK, hKlt⟩ := eclq_clq hN hil i3
        cases hb : s.testBit i with
        | true =>
          have hsq : Clq N s := by
            unfold maxq at hq
            rw [Bool.and_eq_true] at hq
            exact (cliq_iff (Nat.lt_of_lt_of_le hs hN.pow)).1 hq.1
          have := maxq_max hN hs hq hKlt hK fun j hj => eclq_bit.2 (by
            by_cases e : j = i
            · exact .inl e
            · exact .inr ⟨hsq i hb j hj e, hsub j hj⟩)
          rw [this]
          exact List.mem_cons_self ..
        | false =>
          refine List.mem_cons_of_mem _ (max_ecl hN f _ r' (nSub_lt hl) hr' s hs h0 hq fun j hj => ?_)
          rw [nSub_bit, hsub j hj, two_bit]
          have : ¬ i = j := fun e => by subst e; rw [hb] at hj; cases hj
          simp [this]
theorem nodup_mcl (N : List Nat) : (mcl N).Nodup := List.Pairwise.filter _ List.nodup_range
theorem mcl_few {N : List Nat} (hN : VN N) (h : (ordG N).isSome = true) : (mcl N).length ≤ N.length := by
  obtain ⟨r, hr⟩ := Option.isSome_iff_exists.1 h
  have hlen : r.length = N.length := by
    have := el_len hN (ordG_el hN hr)
    simpa using this
  have : (mcl N).length ≤ (ecl N (al N) r).length := (nodup_mcl N).length_le_of_subset fun s hs => by
    obtain ⟨h1, h2, h3⟩ := mem_mcl.1 hs
    exact max_ecl hN 12 _ r (al_lt N) hr s h1 (by omega) h3 fun i hi => by rw [al_bit]; simpa using bit_lt h1 hi
  rw [ecl_len, hlen] at this
  exact this
/-! ## In a row -/
end Go.Proofs.YtleiddajojgmmaaDoor
