/- A graph without holes has an elimination order, and one with a hole has none (Dirac; Fulkerson and Gross). No program, no condition. -/
import Derived.Test.YtmpjanpmkmlloaaDoorGh
namespace Go.Proofs.YtmpjanpmkmlloaaDoor
open Go Go.RowKit VC
set_option linter.unusedSimpArgs false
set_option linter.unusedVariables false

/-- Two nodes are neighbours. -/
def E (N : List Nat) (i j : Nat) : Prop := (nb N i).testBit j = true
theorem E.symm {N : List Nat} (hN : VN N) {i j : Nat} (h : E N i j) : E N j i := by unfold E at *; rw [hN.sym']; exact h
theorem E.ne {N : List Nat} (hN : VN N) {i j : Nat} (h : E N i j) : i ≠ j := fun e => by subst e; unfold E at h; rw [hN.irr'] at h; cases h
theorem E.lt {N : List Nat} (hN : VN N) {i j : Nat} (h : E N i j) : j < N.length := bit_lt (hN.nb_lt i) h
/-! ## Sets out of predicates -/
open Classical in
noncomputable def mkS (p : Nat → Prop) : Nat := ((List.range 12).filter fun i => decide (p i)).foldr (fun i s => 2 ^ i ||| s) 0
theorem fold_bit : ∀ (l : List Nat) (i : Nat), (l.foldr (fun i s => 2 ^ i ||| s) 0).testBit i = true ↔ i ∈ l
  | [], i => by simp
  | a :: l, i => by
    simp only [List.foldr_cons, Nat.testBit_or, Bool.or_eq_true, two_bit, decide_eq_true_eq, List.mem_cons, fold_bit l i]
    constructor
    · rintro (h | h)
      · exact .inl h.symm
      · exact .inr h
    · rintro (h | h)
      · exact .inl h.symm
      · exact .inr h
theorem mkS_bit {p : Nat → Prop} {i : Nat} : (mkS p).testBit i = true ↔ i < 12 ∧ p i := by
  unfold mkS; rw [fold_bit]; simp
theorem mkS_lt (p : Nat → Prop) : mkS p < 4096 := by
  refine Nat.lt_pow_two_of_testBit (n := 12) _ fun i hi => ?_
  cases h : (mkS p).testBit i with
  | false => rfl
  | true => have := (mkS_bit.1 h).1; omega

/-! ## Rings -/
/-- n nodes in a ring, with no other edges among them. -/
structure Ring (N : List Nat) (n : Nat) (f : Nat → Nat) : Prop where
  four : 4 ≤ n
  lt : ∀ i, i < n → f i < N.length
  inj : ∀ i j, i < n → j < n → f i = f j → i = j
  adj : ∀ i j, i < n → j < i → (E N (f i) (f j) ↔ i - j = 1 ∨ i - j = n - 1)
theorem Ring.adj' {N : List Nat} (hN : VN N) {n : Nat} {f : Nat → Nat} (h : Ring N n f) {i j : Nat} (hi : i < n) (hj : j < n) : E N (f i) (f j) ↔ i = j + 1 ∨ j = i + 1 ∨ (i = 0 ∧ j = n - 1) ∨ (j = 0 ∧ i = n - 1) := by
  have h4 := h.four
  rcases Nat.lt_trichotomy i j with hlt | rfl | hgt
  · have := h.adj j i hj hlt
    constructor
    · intro he
      have := this.1 (he.symm hN)
      omega
    · intro h1
      exact (this.2 (by omega)).symm hN
  · constructor
    · intro he; exact absurd rfl (he.ne hN)
    · intro h1; omega
  · have := h.adj i j hi hgt
    rw [this]; omega
theorem Ring.map {N : List Nat} (hN : VN N) {n : Nat} {f : Nat → Nat} (h : Ring N n f) (g : Nat → Nat) (hlt : ∀ i, i < n → g i < n) (hinj : ∀ i j, i < n → j < n → g i = g j → i = j)
    (hadj : ∀ i j, i < n → j < i → ((g i = g j + 1 ∨ g j = g i + 1 ∨ (g i = 0 ∧ g j = n - 1) ∨ (g j = 0 ∧ g i = n - 1)) ↔ i - j = 1 ∨ i - j = n - 1)) : Ring N n fun i => f (g i) :=
  ⟨h.four, fun i hi => h.lt _ (hlt i hi), fun i j hi hj e => hinj i j hi hj (h.inj _ _ (hlt i hi) (hlt j hj) e), fun i j hi hji => by
    rw [h.adj' hN (hlt i hi) (hlt j (by omega))]
    exact hadj i j hi hji⟩
def rot (n k i : Nat) : Nat := if k + i < n then k + i else k + i - n
def ref (n k i : Nat) : Nat := if i ≤ k then k - i else k + n - i
theorem Ring.rot {N : List Nat} (hN : VN N) {n : Nat} {f : Nat → Nat} (h : Ring N n f) {k : Nat} (hk : k < n) : Ring N n fun i => f (rot n k i) := by
  have h4 := h.four
  refine h.map hN _ (fun i hi => by unfold Proofs.YtmpjanpmkmlloaaDoor.rot; split <;> omega) (fun i j hi hj e => ?_) fun i j hi hji => ?_
  · unfold Proofs.YtmpjanpmkmlloaaDoor.rot at e; split at e <;> split at e <;> omega
  · unfold Proofs.YtmpjanpmkmlloaaDoor.rot; split <;> split <;> omega
theorem Ring.ref {N : List Nat} (hN : VN N) {n : Nat} {f : Nat → Nat} (h : Ring N n f) {k : Nat} (hk : k < n) : Ring N n fun i => f (ref n k i) := by
  have h4 := h.four
  refine h.map hN _ (fun i hi => by unfold Proofs.YtmpjanpmkmlloaaDoor.ref; split <;> omega) (fun i j hi hj e => ?_) fun i j hi hji => ?_
  · unfold Proofs.YtmpjanpmkmlloaaDoor.ref at e; split at e <;> split at e <;> omega
  · unfold Proofs.YtmpjanpmkmlloaaDoor.ref; split <;> split <;> omega
theorem exists_min (f : Nat → Nat) : ∀ n, 0 < n → ∃ k, k < n ∧ ∀ i, i < n → f k ≤ f i
  | 1, _ => ⟨0, by omega, fun i hi => by have : i = 0 := by omega
                                         subst this; omega⟩
  | n + 2, _ => by
    obtain ⟨k, hk, h⟩ := exists_min f (n + 1) (by omega)
    by_cases hc : f k ≤ f (n + 1)
    · exact ⟨k, by omega, fun i hi => by
        by_cases e : i = n + 1
        · subst e; exact hc
        · exact h i (by omega)⟩
    · exact ⟨n + 1, by omega, fun i hi => by
        by_cases e : i = n + 1
        · subst e; omega
        · have := h i (by omega); omega⟩
theorem hole_of_ring0 {N : List Nat} {n : Nat} {f : Nat → Nat} (h : Ring N n f) (hmin : ∀ i, i < n → f 0 ≤ f i) (ht : f 1 < f (n - 1)) : HoleP N (ofN ((List.range n).map f)) := by
  have h4 := h.four
  have hlen : (ofN ((List.range n).map f)).length = n := by simp
  have hg : ∀ i, i < n → gi (ofN ((List.range n).map f)) i = ((f i : Nat) : Int) := fun i hi => by
    rw [gi_ofN]; simp [gn, hi]
  refine ⟨by rw [hlen]; exact h4, fun i hi => ?_, fun i hi => ?_, fun i j hi hj => ?_, fun i j hi hj => ?_, ?_⟩
  · rw [hlen] at hi
    rw [hg i hi]
    have := h.lt i hi; omega
  · rw [hlen] at hi
    rw [hg i hi, hg 0 (by omega)]
    have := hmin i hi; omega
  · rw [hlen] at hi
    rw [hg i hi, hg j (by omega)]
    intro e
    have := h.inj i j hi (by omega) (by omega)
    omega
  · rw [hlen] at hi ⊢
    rw [hg i hi, hg j (by omega), ← h.adj i j hi hj]
    simp [ed, E]
  · rw [hlen, hg 1 (by omega), hg (n - 1) (by omega)]
    omega
theorem hole_of_ring {N : List Nat} (hN : VN N) {n : Nat} {f : Nat → Nat} (h : Ring N n f) : ∃ l, HoleP N l := by
  have h4 := h.four
  obtain ⟨k, hk, hmin⟩ := exists_min f n (by omega)
  have r1 := h.rot hN hk
  have m1 : ∀ i, i < n → f (rot n k 0) ≤ f (rot n k i) := fun i hi => by
    have e : rot n k 0 = k := by unfold rot; rw [if_pos (by omega)]; omega
    rw [e]
    exact hmin _ (by unfold rot; split <;> omega)
  by_cases hc : f (rot n k 1) < f (rot n k (n - 1))
  · exact ⟨_, hole_of_ring0 r1 m1 hc⟩
  · have r2 := h.ref hN hk
    refine ⟨_, hole_of_ring0 r2 (fun i hi => ?_) ?_⟩
    · have e : ref n k 0 = k := by unfold ref; rw [if_pos (by omega)]; omega
      rw [e]
      exact hmin _ (by unfold ref; split <;> omega)
    · have e1 : ref n k 1 = rot n k (n - 1) := by unfold ref rot; split <;> split <;> omega
      have e2 : ref n k (n - 1) = rot n k 1 := by unfold ref rot; split <;> split <;> omega
      rw [e1, e2]
      have := r1.inj 1 (n - 1) (by omega) (by omega)
      have hne : f (rot n k 1) ≠ f (rot n k (n - 1)) := fun e => by have := this e; omega
      omega

/-! ## Shortest ways -/
/-- A way of m steps from x to y with what lies between in C. -/
structure Way (N : List Nat) (C : Nat → Prop) (x y m : Nat) (p : Nat → Nat) : Prop where
  h0 : p 0 = x
  hm : p m = y
  inn : ∀ i, 0 < i → i < m → C (p i)
  adj : ∀ i, i < m → E N (p i) (p (i + 1))
theorem Way.cut {N : List Nat} {C : Nat → Prop} {x y m : Nat} {p : Nat → Nat} (h : Way N C x y m p) {i j : Nat} (hij : i + 1 < j) (hj : j ≤ m) (he : E N (p i) (p j)) : Way N C x y (m - (j - i - 1)) fun t => if t ≤ i then p t else p (t + (j - i - 1)) := by
  refine ⟨by simpa using h.h0, ?_, fun t h1 h2 => ?_, fun t ht => ?_⟩
  · have : ¬ m - (j - i - 1) ≤ i := by omega
    have e : m - (j - i - 1) + (j - i - 1) = m := by omega
    simp only [this, if_false, e]
    exact h.hm
  · skip
    split
    · exact h.inn t h1 (by omega)
    · exact h.inn _ (by omega) (by omega)
  · skip
    by_cases h1 : t + 1 ≤ i
    · rw [if_pos (by omega), if_pos h1]
      exact h.adj t (by omega)
    · by_cases h2 : t ≤ i
      · have e : t = i := by omega
        subst e
        have e2 : t + 1 + (j - t - 1) = j := by omega
        rw [if_pos (by omega), if_neg h1, e2]
        exact he
      · rw [if_neg h2, if_neg h1]
        have := h.adj (t + (j - i - 1)) (by omega)
        have e2 : t + 1 + (j - i - 1) = t + (j - i - 1) + 1 := by omega
        rw [e2]; exact this
theorem exists_least {P : Nat → Prop} : ∀ n, P n → ∃ m, P m ∧ ∀ k, k < m → ¬ P k := by
  intro n
  induction n using Nat.strongRecOn with
  | ind n ih =>
    intro hn
    by_cases h : ∃ k, k < n ∧ P k
    · obtain ⟨k, hk, hp⟩ := h
      exact ih k hk hp
    · exact ⟨n, hn, fun k hk hp => h ⟨k, hk, hp⟩⟩
/-- Reached from w within t. -/
inductive Rch (N : List Nat) (t : Nat → Prop) (w : Nat) : Nat → Prop
  | base : t w → Rch N t w w
  | step {a b : Nat} : Rch N t w a → E N a b → t b → Rch N t w b
theorem Rch.mem {N : List Nat} {t : Nat → Prop} {w a : Nat} (h : Rch N t w a) : t a := by
  cases h with
  | base h => exact h
  | step _ _ h => exact h
/-- A way within t from w. -/
theorem Rch.way {N : List Nat} {t : Nat → Prop} {w a : Nat} (h : Rch N t w a) : ∃ (m : Nat) (p : Nat → Nat), p 0 = w ∧ p m = a ∧ (∀ i, i ≤ m → Rch N t w (p i)) ∧ ∀ i, i < m → E N (p i) (p (i + 1)) := by
  induction h with
  | base h => exact ⟨0, fun _ => w, rfl, rfl, fun _ _ => .base h, fun i hi => by omega⟩
  | @step a b h1 h2 h3 ih =>
    obtain ⟨m, p, e1, e2, e3, e4⟩ := ih
    refine ⟨m + 1, fun i => if i ≤ m then p i else b, by simpa using e1, if_neg (by omega), fun i hi => ?_, fun i hi => ?_⟩
    · simp only
      split
      · exact e3 i (by omega)
      · exact .step h1 h2 h3
    · simp only
      by_cases hc : i + 1 ≤ m
      · rw [if_pos (by omega), if_pos hc]; exact e4 i (by omega)
      · have e : i = m := by omega
        subst e
        rw [if_pos (by omega), if_neg hc, e2]; exact h2
/-- From a neighbour of what is reached to another one, through what is reached. -/
theorem way_between {N : List Nat} (hN : VN N) {t : Nat → Prop} {w x y c d : Nat} (hc : Rch N t w c) (hd : Rch N t w d) (hx : E N x c) (hy : E N d y) : ∃ m p, Way N (Rch N t w) x y m p := by
  obtain ⟨m1, p1, a1, a2, a3, a4⟩ := hc.way
  obtain ⟨m2, p2, b1, b2, b3, b4⟩ := hd.way
  obtain ⟨P, P0, P1, P2, P3⟩ : ∃ P : Nat → Nat, P 0 = x ∧ (∀ i, 1 ≤ i → i ≤ m1 + 1 → P i = p1 (m1 + 1 - i)) ∧ (∀ i, m1 + 1 < i → i ≤ m1 + m2 + 1 → P i = p2 (i - (m1 + 1))) ∧ P (m1 + m2 + 2) = y := by
    refine ⟨fun i => if i = 0 then x else if i ≤ m1 + 1 then p1 (m1 + 1 - i) else if i ≤ m1 + m2 + 1 then p2 (i - (m1 + 1)) else y, rfl, fun i h1 h2 => ?_, fun i h1 h2 => ?_, ?_⟩
    · exact (if_neg (by omega)).trans (if_pos h2)
    · exact (if_neg (by omega)).trans ((if_neg (by omega)).trans (if_pos h2))
    · exact (if_neg (by omega)).trans ((if_neg (by omega)).trans (if_neg (by omega)))
  refine ⟨m1 + m2 + 2, P, ⟨P0, P3, fun i h1 h2 => ?_, fun i hi => ?_⟩⟩
  · by_cases h : i ≤ m1 + 1
    · rw [P1 i h1 h]; exact a3 _ (by omega)
    · rw [P2 i (by omega) (by omega)]; exact b3 _ (by omega)
  · by_cases h0 : i = 0
    · subst h0
      rw [P0, P1 (0 + 1) (by omega) (by omega), show m1 + 1 - (0 + 1) = m1 by omega, a2]
      exact hx
    · by_cases h1 : i + 1 ≤ m1 + 1
      · rw [P1 i (by omega) (by omega), P1 (i + 1) (by omega) h1]
        have := a4 (m1 + 1 - (i + 1)) (by omega)
        have e : m1 + 1 - (i + 1) + 1 = m1 + 1 - i := by omega
        rw [e] at this
        exact this.symm hN
      · by_cases h2 : i ≤ m1 + 1
        · have e : i = m1 + 1 := by omega
          subst e
          rw [P1 _ (by omega) (Nat.le_refl _), show m1 + 1 - (m1 + 1) = 0 by omega, a1]
          by_cases h3 : m2 = 0
          · subst h3
            rw [show m1 + 1 + 1 = m1 + 0 + 2 by omega, P3]
            rw [b1] at b2
            rw [b2]; exact hy
          · rw [P2 _ (by omega) (by omega), show m1 + 1 + 1 - (m1 + 1) = 1 by omega, ← b1]
            exact b4 0 (by omega)
        · rw [P2 i (by omega) (by omega)]
          by_cases h3 : i + 1 ≤ m1 + m2 + 1
          · rw [P2 (i + 1) (by omega) h3]
            have := b4 (i - (m1 + 1)) (by omega)
            have e : i - (m1 + 1) + 1 = i + 1 - (m1 + 1) := by omega
            rw [e] at this; exact this
          · have e : i = m1 + m2 + 1 := by omega
            subst e
            rw [show m1 + m2 + 1 + 1 = m1 + m2 + 2 by omega, P3, show m1 + m2 + 1 - (m1 + 1) = m2 by omega, b2]
            exact hy
/-- Two neighbours of v that are no neighbours, with a way between them that avoids v's neighbours: a hole. -/
theorem hole_of_way {N : List Nat} (hN : VN N) {C : Nat → Prop} {v x y : Nat} (hCv : ∀ c, C c → ¬ E N v c ∧ c ≠ v) (hx : E N v x) (hy : E N v y) (hne : x ≠ y) (hxy : ¬ E N x y) (hw : ∃ m p, Way N C x y m p) : ∃ l, HoleP N l := by
  obtain ⟨m0, hm0⟩ := hw
  obtain ⟨m, ⟨p, hp⟩, hmin⟩ := exists_least (P := fun m => ∃ p, Way N C x y m p) m0 hm0
  have hm2 : 2 ≤ m := by
    rcases m with _ | _ | m
    · exact absurd (hp.h0.symm.trans hp.hm) hne
    · have := hp.adj 0 (by omega)
      rw [hp.h0] at this
      have e : p (0 + 1) = y := hp.hm
      rw [e] at this; exact absurd this hxy
    · omega
  have hchord : ∀ i j, i < j → j ≤ m → E N (p i) (p j) → j = i + 1 := fun i j hij hj he => by
    rcases Nat.lt_or_ge (i + 1) j with h | h
    · exact absurd ⟨_, hp.cut h hj he⟩ (hmin _ (by omega))
    · omega
  have hvp : ∀ i, i ≤ m → (E N v (p i) ↔ i = 0 ∨ i = m) ∧ p i ≠ v := fun i hi => by
    by_cases h0 : i = 0
    · subst h0; rw [hp.h0]; exact ⟨⟨fun _ => .inl rfl, fun _ => hx⟩, (hx.ne hN).symm⟩
    · by_cases hm : i = m
      · subst hm; rw [hp.hm]; exact ⟨⟨fun _ => .inr rfl, fun _ => hy⟩, (hy.ne hN).symm⟩
      · have := hCv _ (hp.inn i (by omega) (by omega))
        exact ⟨⟨fun h => absurd h this.1, fun h => by omega⟩, this.2⟩
  have hinj : ∀ i j, i < j → j ≤ m → p i ≠ p j := fun i j hij hj e => by
    by_cases hjm : j = m
    · subst hjm
      by_cases h0 : i = 0
      · subst h0; rw [hp.h0, hp.hm] at e; exact hne e
      · have h1 := (hvp i (by omega)).1
        have h2 := (hvp j (by omega)).1
        rw [← e] at h2
        have := h1.1 (h2.2 (.inr rfl))
        omega
    · -- then p i is a neighbour of p (j+1)
      have := hp.adj j (by omega)
      rw [← e] at this
      have := hchord i (j + 1) (by omega) (by omega) this
      omega
  refine hole_of_ring hN (n := m + 2) (f := fun i => if i = 0 then v else p (i - 1)) ⟨by omega, fun i hi => ?_, fun i j hi hj e => ?_, fun i j hi hj => ?_⟩
  · skip
    split
    · exact (hx.symm hN).lt hN
    · by_cases h : i - 1 = 0
      · rw [h, hp.h0]; exact hx.lt hN
      · have := hp.adj (i - 1 - 1) (by omega)
        have e : i - 1 - 1 + 1 = i - 1 := by omega
        rw [e] at this
        exact this.lt hN
  · by_cases h1 : i = 0
    · by_cases h2 : j = 0
      · omega
      · rw [if_pos h1, if_neg h2] at e
        exact absurd e.symm (hvp (j - 1) (by omega)).2
    · by_cases h2 : j = 0
      · rw [if_neg h1, if_pos h2] at e
        exact absurd e (hvp (i - 1) (by omega)).2
      · rw [if_neg h1, if_neg h2] at e
        rcases Nat.lt_trichotomy i j with h | h | h
        · exact absurd e (hinj (i - 1) (j - 1) (by omega) (by omega))
        · exact h
        · exact absurd e.symm (hinj (j - 1) (i - 1) (by omega) (by omega))
  · skip
    rw [if_neg (by omega)]
    by_cases h2 : j = 0
    · rw [if_pos h2]
      have := (hvp (i - 1) (by omega)).1
      constructor
      · intro h
        have := this.1 (h.symm hN)
        omega
      · intro h
        exact (this.2 (by omega)).symm hN
    · rw [if_neg h2]
      constructor
      · intro h
        have := hchord (j - 1) (i - 1) (by omega) (by omega) (h.symm hN)
        omega
      · intro h
        have e : i - 1 = j - 1 + 1 := by omega
        have := hp.adj (j - 1) (by omega)
        rw [e]; exact this.symm hN

/-! ## Dirac's lemma -/
theorem Clq_sub {N : List Nat} {s t : Nat} (h : Clq N t) (hs : ∀ i, s.testBit i = true → t.testBit i = true) : Clq N s := fun i hi j hj hne => h i (hs i hi) j (hs j hj) hne
theorem dirac {N : List Nat} (hN : VN N) (hno : ∀ l, ¬ HoleP N l) : ∀ (k s : Nat), s < 2 ^ N.length → pc s ≤ k → ∀ v w, s.testBit v = true → s.testBit w = true → w ≠ v → ¬ E N v w →
    ∃ z, s.testBit z = true ∧ z ≠ v ∧ ¬ E N v z ∧ Clq N (nb N z &&& s)
  | 0, s, hs, hk, v, w, hv, _, _, _ => by
    have : 0 < pc s := by
      have h4 : s < 4096 := Nat.lt_of_lt_of_le hs hN.pow
      rcases Nat.eq_zero_or_pos (pc s) with h | h
      · rw [(pc_zero h4).1 h] at hv; simp at hv
      · exact h
    omega
  | k + 1, s, hs, hk, v, w, hv, hw, hwv, hE => by
    have h12 := hN.le
    have hlt12 : ∀ i, s.testBit i = true → i < 12 := fun i hi => by have := bit_lt hs hi; omega
    let t := fun x => s.testBit x = true ∧ x ≠ v ∧ ¬ E N v x
    let C := Rch N t w
    let B := fun x => s.testBit x = true ∧ E N v x ∧ ∃ c, C c ∧ E N x c
    have hCt : ∀ c, C c → t c := fun c hc => hc.mem
    have hCw : C w := .base ⟨hw, hwv, hE⟩
    have hout : ∀ x c, s.testBit x = true → C c → E N c x → C x ∨ B x := fun x c hx hc he => by
      by_cases hvx : E N v x
      · exact .inr ⟨hx, hvx, c, hc, he.symm hN⟩
      · refine .inl (.step hc he ⟨hx, fun e => ?_, hvx⟩)
        subst e
        exact (hCt c hc).2.2 (he.symm hN)
    have hB : ∀ x y, B x → B y → x ≠ y → E N x y := fun x y hx hy hne => by
      obtain ⟨_, hx2, c, hc, hxc⟩ := hx
      obtain ⟨_, hy2, d, hd, hyd⟩ := hy
      refine Classical.byContradiction fun hxy => ?_
      obtain ⟨l, hl⟩ := hole_of_way hN (C := C) (fun c hc => ⟨(hCt c hc).2.2, (hCt c hc).2.1⟩) hx2 hy2 hne hxy (way_between hN hc hd hxc (hyd.symm hN))
      exact hno l hl
    let H := mkS fun x => C x ∨ B x
    have hH : ∀ i, H.testBit i = true ↔ C i ∨ B i := fun i => by
      rw [mkS_bit]
      refine ⟨fun h => h.2, fun h => ⟨?_, h⟩⟩
      rcases h with h | h
      · exact hlt12 i (hCt i h).1
      · exact hlt12 i h.1
    have hHs : ∀ i, H.testBit i = true → s.testBit i = true := fun i hi => by
      rcases (hH i).1 hi with h | h
      · exact (hCt i h).1
      · exact h.1
    have hvH : H.testBit v = false := by
      cases h : H.testBit v with
      | false => rfl
      | true =>
        rcases (hH v).1 h with h | h
        · exact absurd rfl (hCt v h).2.1
        · exact absurd rfl (h.2.1.ne hN)
    have hlt : pc H < pc s := pc_lt (fun i _ hi => hHs i hi) (hlt12 v hv) hvH hv
    have hHlt : H < 2 ^ N.length := sub_al.2 fun i hi => bit_lt hs (hHs i hi)
    -- what is simplicial in H and lies in C is simplicial in s
    have up : ∀ z, C z → Clq N (nb N z &&& H) → ∃ z, s.testBit z = true ∧ z ≠ v ∧ ¬ E N v z ∧ Clq N (nb N z &&& s) := fun z hz hq => by
      refine ⟨z, (hCt z hz).1, (hCt z hz).2.1, (hCt z hz).2.2, Clq_sub hq fun i hi => ?_⟩
      rw [Nat.testBit_and, Bool.and_eq_true] at hi ⊢
      exact ⟨hi.1, (hH i).2 (hout i z hi.2 hz hi.1)⟩
    by_cases h1 : ∃ u u', B u ∧ H.testBit u' = true ∧ u' ≠ u ∧ ¬ E N u u'
    · obtain ⟨u, u', hu, hu', hne, he⟩ := h1
      obtain ⟨z, hz, hzu, hze, hq⟩ := dirac hN hno k H hHlt (by omega) u u' ((hH u).2 (.inr hu)) hu' hne he
      rcases (hH z).1 hz with h | h
      · exact up z h hq
      · exact absurd (hB u z hu h hzu.symm) hze
    · by_cases h2 : ∃ c c', C c ∧ C c' ∧ c' ≠ c ∧ ¬ E N c c'
      · obtain ⟨c, c', hc, hc', hne, he⟩ := h2
        obtain ⟨z, hz, hzu, hze, hq⟩ := dirac hN hno k H hHlt (by omega) c c' ((hH c).2 (.inl hc)) ((hH c').2 (.inl hc')) hne he
        rcases (hH z).1 hz with h | h
        · exact up z h hq
        · refine absurd ⟨z, c, h, (hH c).2 (.inl hc), fun e => hzu e.symm, fun e => hze (e.symm hN)⟩ h1
      · refine up w hCw fun i hi j hj hne => ?_
        rw [Nat.testBit_and, Bool.and_eq_true] at hi hj
        refine Classical.byContradiction fun hij => ?_
        rcases (hH i).1 hi.2 with h | h
        · rcases (hH j).1 hj.2 with h' | h'
          · exact h2 ⟨i, j, h, h', hne, hij⟩
          · exact h1 ⟨j, i, h', hi.2, hne.symm, fun e => hij (E.symm hN e)⟩
        · exact h1 ⟨i, j, h, hj.2, hne, hij⟩
theorem simplicial {N : List Nat} (hN : VN N) (hno : ∀ l, ¬ HoleP N l) {s : Nat} (hs : s < 2 ^ N.length) (h0 : s ≠ 0) : ∃ z, s.testBit z = true ∧ Clq N (nb N z &&& s) := by
  by_cases h : ∃ v w, s.testBit v = true ∧ s.testBit w = true ∧ w ≠ v ∧ ¬ E N v w
  · obtain ⟨v, w, hv, hw, hne, he⟩ := h
    obtain ⟨z, hz, _, _, hq⟩ := dirac hN hno (pc s) s hs (Nat.le_refl _) v w hv hw hne he
    exact ⟨z, hz, hq⟩
  · have : ∃ z, s.testBit z = true := Classical.byContradiction fun hn => h0 (set_zero.2 fun i => by
      cases hb : s.testBit i with
      | false => rfl
      | true => exact absurd ⟨i, hb⟩ hn)
    obtain ⟨z, hz⟩ := this
    refine ⟨z, hz, fun i hi j hj hne => ?_⟩
    rw [Nat.testBit_and, Bool.and_eq_true] at hi hj
    exact Classical.byContradiction fun hij => h ⟨i, j, hi.2, hj.2, hne, hij⟩
theorem ordN_some {N : List Nat} (hN : VN N) (hno : ∀ l, ¬ HoleP N l) : ∀ (f left : Nat), left < 2 ^ N.length → pc left ≤ f → (ordN N f left).isSome = true
  | 0, left, hl, hf => by
    have h4 : left < 4096 := Nat.lt_of_lt_of_le hl hN.pow
    have : left = 0 := (pc_zero h4).1 (by omega)
    subst this
    simp [ordN]
  | f + 1, left, hl, hf => by
    have h12 := hN.le
    unfold ordN
    by_cases h0 : left = 0
    · rw [if_pos h0]; rfl
    · rw [if_neg h0]
      obtain ⟨z, hz, hq⟩ := simplicial hN hno hl h0
      have hz12 : z < 12 := by have := bit_lt hl hz; omega
      cases hfind : (els left).find? (fun i => cliq N (nb N i &&& left)) with
      | none =>
        rw [List.find?_eq_none] at hfind
        have := hfind z (mem_els.2 ⟨hz12, hz⟩)
        rw [(cliq_iff (Nat.lt_of_le_of_lt Nat.and_le_left (hN.nb_lt' z))).2 hq] at this
        exact absurd rfl this
      | some i =>
        have hm := mem_els.1 (List.mem_of_find?_eq_some hfind)
        have := ordN_some hN hno f (nSub left (2 ^ i)) (nSub_lt hl) (by have := pc_sub hm.2 hm.1; omega)
        simp only [Option.isSome_map]
        exact this
/-- A hole hinders every order. -/
theorem hole_hinders {N : List Nat} (hN : VN N) {l : List Int} (h : HoleP N l) : ∀ (f left : Nat) (r : List Nat), (∀ i, i < l.length → left.testBit (gi l i).toNat = true) → ordN N f left ≠ some r
  | 0, left, r, hin => fun ho => by
    unfold ordN at ho
    split at ho
    · rename_i h0
      have := hin 0 (by have := h.four; omega)
      rw [h0] at this; simp at this
    · cases ho
  | f + 1, left, r, hin => fun ho => by
    have h4 := h.four
    unfold ordN at ho
    split at ho
    · rename_i h0
      have := hin 0 (by omega)
      rw [h0] at this; simp at this
    · split at ho
      · cases ho
      · rename_i z hz
        simp only [Option.map_eq_some_iff] at ho
        obtain ⟨r', hr', -⟩ := ho
        have hq := List.find?_some hz
        rw [cliq_iff (Nat.lt_of_le_of_lt Nat.and_le_left (hN.nb_lt' z))] at hq
        by_cases hk : ∃ k, k < l.length ∧ (gi l k).toNat = z
        · obtain ⟨k, hk, rfl⟩ := hk
          have adj : ∀ i j, i < l.length → j < i → (i - j = 1 ∨ i - j = l.length - 1) → E N (gi l i).toNat (gi l j).toNat := fun i j hi hj hd => (h.adj i j hi hj).2 hd
          have nadj : ∀ i j, i < l.length → j < i → ¬ (i - j = 1 ∨ i - j = l.length - 1) → ¬ E N (gi l i).toNat (gi l j).toNat := fun i j hi hj hd he => hd ((h.adj i j hi hj).1 he)
          have use : ∀ a b, a < l.length → b < a → E N (gi l k).toNat (gi l a).toNat → E N (gi l k).toNat (gi l b).toNat → ¬ (a - b = 1 ∨ a - b = l.length - 1) → False := fun a b ha hb h1 h2 h3 => by
            refine nadj a b ha hb h3 (hq _ ?_ _ ?_ ?_)
            · rw [Nat.testBit_and, Bool.and_eq_true]; exact ⟨h1, hin a ha⟩
            · rw [Nat.testBit_and, Bool.and_eq_true]; exact ⟨h2, hin b (by omega)⟩
            · intro e
              have := h.ne a b ha hb
              have h5 := h.rng a ha
              have h6 := h.rng b (by omega)
              omega
          by_cases h0 : k = 0
          · subst h0
            exact use (l.length - 1) 1 (by omega) (by omega) ((adj (l.length - 1) 0 (by omega) (by omega) (by omega)).symm hN) ((adj 1 0 (by omega) (by omega) (by omega)).symm hN) (by omega)
          · by_cases h1 : k = l.length - 1
            · subst h1
              exact use (l.length - 1 - 1) 0 (by omega) (by omega) (adj _ _ (by omega) (by omega) (by omega)) (adj _ _ (by omega) (by omega) (by omega)) (by omega)
            · exact use (k + 1) (k - 1) (by omega) (by omega) ((adj (k + 1) k (by omega) (by omega) (by omega)).symm hN) (adj k (k - 1) (by omega) (by omega) (by omega)) (by omega)
        · refine hole_hinders hN h f _ r' (fun i hi => ?_) hr'
          rw [nSub_bit, hin i hi, two_bit]
          have : ¬ z = (gi l i).toNat := fun e => hk ⟨i, hi, e.symm⟩
          simp [this]
theorem ord_none {N : List Nat} (hN : VN N) (h : ordG N = none) : (firstH N).isSome = true := by
  cases hf : firstH N with
  | some r => rfl
  | none =>
    have := ordN_some hN ((firstH_none hN).1 hf) 12 (al N) (al_lt N) (pc_le _)
    unfold ordG at h
    rw [h] at this; cases this
theorem ord_some {N : List Nat} (hN : VN N) (h : (ordG N).isSome = true) : firstH N = none := by
  rw [firstH_none hN]
  intro l hl
  obtain ⟨r, hr⟩ := Option.isSome_iff_exists.1 h
  refine hole_hinders hN hl 12 (al N) r (fun i hi => ?_) hr
  rw [al_bit]
  have := hl.rng i hi
  simp; omega
end Go.Proofs.YtmpjanpmkmlloaaDoor
