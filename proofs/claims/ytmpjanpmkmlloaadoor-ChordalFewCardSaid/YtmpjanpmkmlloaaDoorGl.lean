/- A graph without holes and without three nodes apart has its cliques in a row (Lekkerkerker and Boland). No program, no condition. -/
import Derived.Test.YtmpjanpmkmlloaaDoorGa
namespace Go.Proofs.YtmpjanpmkmlloaaDoor
open Go Go.RowKit VC
set_option linter.unusedSimpArgs false
set_option linter.unusedVariables false

/-- The sets that have a node are side by side. -/
def Cons (R : List Nat) : Prop := ∀ a b c, [a, b, c].Sublist R → ∀ x, a.testBit x = true → c.testBit x = true → b.testBit x = true
theorem Cons.sub {R R' : List Nat} (h : Cons R) (hs : R'.Sublist R) : Cons R' := fun a b c habc => h a b c (habc.trans hs)
theorem Cons.rev {R : List Nat} (h : Cons R) : Cons R.reverse := fun a b c habc x h1 h2 => by
  have : [c, b, a].Sublist R := by simpa using habc.reverse
  exact h c b a this x h2 h1
theorem sub_three {R : List Nat} {i j l : Nat} (hij : i < j) (hjl : j < l) (hl : l < R.length) : [gn R i, gn R j, gn R l].Sublist R := by
  have e : ∀ k, k < R.length → R.drop k = gn R k :: R.drop (k + 1) := fun k hk => by rw [List.drop_eq_getElem_cons hk, gn_get hk]
  have d : ∀ k m, k ≤ m → (R.drop m).Sublist (R.drop k) := fun k m hkm => by
    have : R.drop m = (R.drop k).drop (m - k) := by rw [List.drop_drop]; congr 1; omega
    rw [this]; exact List.drop_sublist _ _
  have h3 : [gn R l].Sublist (R.drop (j + 1)) := by
    refine List.Sublist.trans ?_ (d (j + 1) l (by omega))
    rw [e l hl]; simp
  have h2 : [gn R j, gn R l].Sublist (R.drop (i + 1)) := by
    refine List.Sublist.trans ?_ (d (i + 1) j (by omega))
    rw [e j (by omega)]; exact h3.cons_cons _
  have h1 : [gn R i, gn R j, gn R l].Sublist (R.drop i) := by rw [e i (by omega)]; exact h2.cons_cons _
  exact h1.trans (List.drop_sublist _ _)
theorem Cons.at {R : List Nat} (h : Cons R) {i j l x : Nat} (hij : i ≤ j) (hjl : j ≤ l) (hl : l < R.length) (h1 : (gn R i).testBit x = true) (h2 : (gn R l).testBit x = true) : (gn R j).testBit x = true := by
  by_cases e1 : i = j
  · subst e1; exact h1
  by_cases e2 : j = l
  · subst e2; exact h2
  exact h _ _ _ (sub_three (by omega) (by omega) hl) x h1 h2
theorem three_app {a b c : Nat} {A B : List Nat} (h : [a, b, c].Sublist (A ++ B)) : [a, b, c].Sublist A ∨ ([a, b].Sublist A ∧ c ∈ B) ∨ (a ∈ A ∧ [b, c].Sublist B) ∨ [a, b, c].Sublist B := by
  obtain ⟨l1, l2, e, h1, h2⟩ := List.sublist_append_iff.1 h
  match l1, e, h1 with
  | [], e, h1 => simp at e; subst e; exact .inr (.inr (.inr h2))
  | [a'], e, h1 =>
    simp at e; obtain ⟨rfl, rfl⟩ := e
    exact .inr (.inr (.inl ⟨by simpa using h1, h2⟩))
  | [a', b'], e, h1 =>
    simp at e; obtain ⟨rfl, rfl, rfl⟩ := e
    exact .inr (.inl ⟨h1, by simpa using h2⟩)
  | [a', b', c'], e, h1 =>
    simp at e; obtain ⟨rfl, rfl, rfl, rfl⟩ := e
    exact .inl h1
  | a' :: b' :: c' :: d' :: r, e, h1 => simp at e
theorem two_app {b c : Nat} {A B : List Nat} (h : [b, c].Sublist (A ++ B)) : [b, c].Sublist A ∨ (b ∈ A ∧ c ∈ B) ∨ [b, c].Sublist B := by
  obtain ⟨l1, l2, e, h1, h2⟩ := List.sublist_append_iff.1 h
  match l1, e, h1 with
  | [], e, h1 => simp at e; subst e; exact .inr (.inr h2)
  | [a'], e, h1 =>
    simp at e; obtain ⟨rfl, rfl⟩ := e
    exact .inr (.inl ⟨by simpa using h1, by simpa using h2⟩)
  | [a', b'], e, h1 =>
    simp at e; obtain ⟨rfl, rfl, rfl⟩ := e
    exact .inl h1
  | a' :: b' :: c' :: r, e, h1 => simp at e
theorem app_three {a b c : Nat} {A B : List Nat} : ([a, b].Sublist A ∧ c ∈ B → [a, b, c].Sublist (A ++ B)) ∧ (a ∈ A ∧ [b, c].Sublist B → [a, b, c].Sublist (A ++ B)) :=
  ⟨fun ⟨h1, h2⟩ => by
    have : [c].Sublist B := by simpa using h2
    exact h1.append this, fun ⟨h1, h2⟩ => by
    have : [a].Sublist A := by simpa using h1
    exact this.append h2⟩
/-- A block whose crossing nodes are in all of it may be put in any good order. -/
theorem flip {A B B' D : List Nat} (h : Cons (A ++ (B ++ D))) (hB : Cons B') (hm : ∀ K, K ∈ B' → K ∈ B) (hl : ∀ a ∈ A, ∀ c ∈ B ++ D, ∀ x, a.testBit x = true → c.testBit x = true → ∀ b ∈ B, b.testBit x = true)
    (hr : ∀ a ∈ A ++ B, ∀ c ∈ D, ∀ x, a.testBit x = true → c.testBit x = true → ∀ b ∈ B, b.testBit x = true) : Cons (A ++ (B' ++ D)) := by
  intro a b c habc x ha hc
  rcases three_app habc with h1 | ⟨h1, h2⟩ | ⟨h1, h2⟩ | h1
  · exact h a b c (h1.trans (List.sublist_append_left _ _)) x ha hc
  · have : c ∈ B ++ D := by
      rcases List.mem_append.1 h2 with h3 | h3
      · exact List.mem_append_left _ (hm c h3)
      · exact List.mem_append_right _ h3
    exact h a b c (app_three.1 ⟨h1, this⟩) x ha hc
  · rcases two_app h2 with h3 | ⟨h3, h4⟩ | h3
    · have hb : b ∈ B := hm b (h3.subset (by simp))
      have hcB : c ∈ B := hm c (h3.subset (by simp))
      exact hl a h1 c (List.mem_append_left _ hcB) x ha hc b hb
    · exact hl a h1 c (List.mem_append_right _ h4) x ha hc b (hm b h3)
    · exact h a b c (app_three.2 ⟨h1, h3.trans (List.sublist_append_right _ _)⟩) x ha hc
  · rcases three_app h1 with h3 | ⟨h3, h4⟩ | ⟨h3, h4⟩ | h3
    · exact hB a b c h3 x ha hc
    · have haB : a ∈ B := hm a (h3.subset (by simp))
      exact hr a (List.mem_append_right _ haB) c h4 x ha hc b (hm b (h3.subset (by simp)))
    · exact h a b c ((app_three.2 ⟨hm a h3, h4⟩).trans (List.sublist_append_right _ _)) x ha hc
    · exact h a b c ((h3.trans (List.sublist_append_right _ _)).trans (List.sublist_append_right _ _)) x ha hc
/-- A new set between two that stand side by side, where what crosses is in it, and what it shares is in its neighbours. -/
theorem insert {A B : List Nat} {S v : Nat} (h : Cons (A ++ B)) (hv : ∀ K ∈ A ++ B, K.testBit v = false) (hS : S.testBit v = false) (hA : ∀ a ∈ A, ∀ c ∈ B, ∀ x, a.testBit x = true → c.testBit x = true → S.testBit x = true)
    (hN : (∃ K A', A = A' ++ [K] ∧ ∀ x, S.testBit x = true → K.testBit x = true) ∨ ∃ K B', B = K :: B' ∧ ∀ x, S.testBit x = true → K.testBit x = true) : Cons (A ++ (S ||| 2 ^ v) :: B) := by
  have bit : ∀ x, (S ||| 2 ^ v).testBit x = true ↔ S.testBit x = true ∨ x = v := fun x => by
    rw [Nat.testBit_or, two_bit, Bool.or_eq_true, decide_eq_true_eq]
    constructor
    · rintro (h | h)
      · exact .inl h
      · exact .inr h.symm
    · rintro (h | h)
      · exact .inl h
      · exact .inr h.symm
  have bitK : ∀ K ∈ A ++ B, ∀ x, K.testBit x = true → (S ||| 2 ^ v).testBit x = true → S.testBit x = true := fun K hK x h1 h2 => by
    rcases (bit x).1 h2 with h3 | h3
    · exact h3
    · subst h3; rw [hv K hK] at h1; cases h1
  -- a pair on one side, the new set at the other end
  have pairL : ∀ a b, [a, b].Sublist A → ∀ x, a.testBit x = true → S.testBit x = true → b.testBit x = true := fun a b hab x ha hx => by
    have haA : a ∈ A := hab.subset (by simp)
    rcases hN with ⟨K, A', rfl, hK⟩ | ⟨K, B', rfl, hK⟩
    · rcases two_app hab with h1 | ⟨h1, h2⟩ | h1
      · refine h a b K ?_ x ha (hK x hx)
        exact (app_three.1 ⟨h1, by simp⟩).trans (List.sublist_append_left _ _)
      · have : b = K := by simpa using h2
        subst this; exact hK x hx
      · have := h1.length_le; simp at this
    · exact h a b K (app_three.1 ⟨hab, by simp⟩) x ha (hK x hx)
  have pairR : ∀ b c, [b, c].Sublist B → ∀ x, S.testBit x = true → c.testBit x = true → b.testBit x = true := fun b c hbc x hx hc => by
    rcases hN with ⟨K, A', rfl, hK⟩ | ⟨K, B', rfl, hK⟩
    · exact h K b c (app_three.2 ⟨by simp, hbc⟩) x (hK x hx) hc
    · have hbc' : [b, c].Sublist ([K] ++ B') := hbc
      rcases two_app hbc' with h1 | ⟨h1, h2⟩ | h1
      · have := h1.length_le; simp at this
      · have : b = K := by simpa using h1
        subst this; exact hK x hx
      · refine h K b c ?_ x (hK x hx) hc
        have : [K, b, c].Sublist (K :: B') := h1.cons_cons _
        exact this.trans (List.sublist_append_right _ _)
  intro a b c habc x ha hc
  rcases three_app habc with h1 | ⟨h1, h2⟩ | ⟨h1, h2⟩ | h1
  · exact h a b c (h1.trans (List.sublist_append_left _ _)) x ha hc
  · rcases List.mem_cons.1 h2 with rfl | h2
    · exact pairL a b h1 x ha (bitK a (List.mem_append_left _ (h1.subset (by simp))) x ha hc)
    · exact h a b c (app_three.1 ⟨h1, h2⟩) x ha hc
  · have h2' : [b, c].Sublist ([S ||| 2 ^ v] ++ B) := h2
    rcases two_app h2' with h3 | ⟨h3, h4⟩ | h3
    · have := h3.length_le; simp at this
    · have : b = S ||| 2 ^ v := by simpa using h3
      subst this
      exact (bit x).2 (.inl (hA a h1 c h4 x ha hc))
    · exact h a b c (app_three.2 ⟨h1, h3⟩) x ha hc
  · have h1' : [a, b, c].Sublist ([S ||| 2 ^ v] ++ B) := h1
    rcases three_app h1' with h3 | ⟨h3, h4⟩ | ⟨h3, h4⟩ | h3
    · have := h3.length_le; simp at this
    · have := h3.length_le; simp at this
    · have : a = S ||| 2 ^ v := by simpa using h3
      subst this
      exact pairR b c h4 x (bitK c (List.mem_append_right _ (h4.subset (by simp))) x hc ha) hc
    · exact h a b c (h3.trans (List.sublist_append_right _ _)) x ha hc
/-- All cliques within s, in a row. -/
structure Row (N : List Nat) (s : Nat) (R : List Nat) : Prop where
  clq : ∀ K ∈ R, Clq N K ∧ ∀ x, K.testBit x = true → s.testBit x = true
  cov : ∀ K, Clq N K → (∀ x, K.testBit x = true → s.testBit x = true) → ∃ K' ∈ R, ∀ x, K.testBit x = true → K'.testBit x = true
  cons : Cons R
theorem mem_gn {R : List Nat} {K : Nat} : K ∈ R ↔ ∃ j, j < R.length ∧ gn R j = K := by
  rw [List.mem_iff_getElem]
  constructor
  · rintro ⟨j, hj, e⟩; exact ⟨j, hj, by rw [← gn_get hj]; exact e⟩
  · rintro ⟨j, hj, e⟩; exact ⟨j, hj, by rw [gn_get hj]; exact e⟩
/-- A shortest row: no set lies in the next one, or the other way round. -/
theorem Row.reduced {N : List Nat} {s : Nat} (h : ∃ R, Row N s R) : ∃ R, Row N s R ∧ ∀ i, i + 1 < R.length → (∃ x, (gn R i).testBit x = true ∧ (gn R (i + 1)).testBit x = false) ∧ ∃ x, (gn R (i + 1)).testBit x = true ∧ (gn R i).testBit x = false := by
  obtain ⟨R0, h0⟩ := h
  obtain ⟨m, ⟨R, hR, rfl⟩, hmin⟩ := exists_least (P := fun m => ∃ R, Row N s R ∧ R.length = m) R0.length ⟨R0, h0, rfl⟩
  refine ⟨R, hR, ?_⟩
  have key : ∀ i j, i < R.length → j < R.length → i ≠ j → ∃ x, (gn R i).testBit x = true ∧ (gn R j).testBit x = false := fun i j hi hj hne => Classical.byContradiction fun hno => by
    have hsub : ∀ x, (gn R i).testBit x = true → (gn R j).testBit x = true := fun x hx => by
      cases hb : (gn R j).testBit x with
      | true => rfl
      | false => exact absurd ⟨x, hx, hb⟩ hno
    refine hmin (R.eraseIdx i).length (by rw [List.length_eraseIdx_of_lt hi]; omega) ⟨R.eraseIdx i, ⟨fun K hK => hR.clq K ((List.eraseIdx_sublist _ _).subset hK), fun K hK hs => ?_, hR.cons.sub (List.eraseIdx_sublist _ _)⟩, rfl⟩
    obtain ⟨K', hK', hKK⟩ := hR.cov K hK hs
    obtain ⟨k, hk, rfl⟩ := mem_gn.1 hK'
    have memE : ∀ t, t < R.length → t ≠ i → gn R t ∈ R.eraseIdx i := fun t ht hti => by
      rw [List.mem_eraseIdx_iff_getElem]
      exact ⟨t, by omega, hti, gn_get ht⟩
    by_cases e : k = i
    · subst e
      exact ⟨_, memE j hj (fun e => hne e.symm), fun x hx => hsub x (hKK x hx)⟩
    · exact ⟨_, memE k hk e, hKK⟩
  exact fun i hi => ⟨key i (i + 1) (by omega) hi (by omega), key (i + 1) i hi (by omega) (by omega)⟩

/-! ## The step: a node whose neighbours are a clique joins a row -/
/-- What is given: a reduced row of s, a clique S within s. -/
structure Sit (N : List Nat) (s S : Nat) (R : List Nat) (p q : Nat) : Prop where
  row : Row N s R
  red : ∀ i, i + 1 < R.length → (∃ x, (gn R i).testBit x = true ∧ (gn R (i + 1)).testBit x = false) ∧ ∃ x, (gn R (i + 1)).testBit x = true ∧ (gn R i).testBit x = false
  pq : p ≤ q
  ql : q < R.length
  inS : ∀ j, p ≤ j → j ≤ q → ∀ x, S.testBit x = true → (gn R j).testBit x = true
  before : ∀ j, j < p → ∃ x, S.testBit x = true ∧ (gn R j).testBit x = false
  behind : ∀ j, q < j → j < R.length → ∃ x, S.testBit x = true ∧ (gn R j).testBit x = false
/-- What crosses the cut ahead of the set m. -/
def Xc (R : List Nat) (m x : Nat) : Prop := 1 ≤ m ∧ (gn R (m - 1)).testBit x = true ∧ (gn R m).testBit x = true
def XIn (R : List Nat) (m K : Nat) : Prop := ∀ x, Xc R m x → K.testBit x = true
inductive Use (R : List Nat) (p q : Nat) : Bool → Nat → Nat → Prop
  | baseL : Use R p q false p (q + 1)
  | baseR : Use R p q true p (q + 1)
  | toR {i t m : Nat} : Use R p q false i t → t ≤ m → m ≤ R.length → XIn R i (gn R (m - 1)) → XIn R m (gn R p) → Use R p q true i m
  | toL {i i' m : Nat} : Use R p q true i m → i' ≤ i → XIn R m (gn R i') → XIn R i' (gn R q) → Use R p q false i' m
theorem Use.rng {R : List Nat} {p q : Nat} (hpq : p ≤ q) (hq : q < R.length) {b : Bool} {i m : Nat} (h : Use R p q b i m) : i ≤ p ∧ q < m ∧ m ≤ R.length := by
  induction h with
  | baseL => omega
  | baseR => omega
  | toR _ h1 h2 _ _ ih => omega
  | toL _ h1 _ _ ih => omega
/-- What crosses a cut is in all sets up to one that it is in. -/
theorem XIn.right {R : List Nat} (hc : Cons R) {m j k : Nat} (h : XIn R m (gn R k)) (hmj : m ≤ j + 1) (hjk : j ≤ k) (hk : k < R.length) : XIn R m (gn R j) := fun x hx => by
  have h1 := h x hx
  obtain ⟨h0, h2, h3⟩ := hx
  exact hc.at (i := m - 1) (by omega) hjk hk h2 h1
theorem XIn.left {R : List Nat} (hc : Cons R) {m j k : Nat} (h : XIn R m (gn R k)) (hkj : k ≤ j) (hjm : j ≤ m) (hm : m < R.length) : XIn R m (gn R j) := fun x hx => by
  have h1 := h x hx
  obtain ⟨h0, h2, h3⟩ := hx
  exact hc.at (l := m) hkj (by omega) hm h1 h3
theorem gn_out {R : List Nat} {m : Nat} (h : R.length ≤ m) : gn R m = 0 := by unfold gn; simp [h]
theorem xin_end {R : List Nat} {m K : Nat} (h : R.length ≤ m) : XIn R m K := fun x hx => by
  obtain ⟨_, _, h3⟩ := hx
  rw [gn_out h] at h3; simp at h3
theorem xin_zero {R : List Nat} {K : Nat} : XIn R 0 K := fun x hx => by have := hx.1; omega
theorem XIn.left' {R : List Nat} (hc : Cons R) {m j k : Nat} (h : XIn R m (gn R k)) (hkj : k ≤ j) (hjm : j ≤ m) : XIn R m (gn R j) := by
  rcases Nat.lt_or_ge m R.length with h1 | h1
  · exact h.left hc hkj hjm h1
  · exact xin_end h1
theorem Use.back {N : List Nat} {s S : Nat} {R : List Nat} {p q : Nat} (hS : Sit N s S R p q) {b : Bool} {i m : Nat} (h : Use R p q b i m) :
    (∀ j, i < j → j ≤ p → XIn R j (gn R q) → ∃ t, Use R p q false j t) ∧ ∀ j, q < j → j < m → XIn R j (gn R p) → ∃ i', Use R p q true i' j := by
  have hc := hS.row.cons
  induction h with
  | baseL => exact ⟨fun j h1 h2 => by omega, fun j h1 h2 => by omega⟩
  | baseR => exact ⟨fun j h1 h2 => by omega, fun j h1 h2 => by omega⟩
  | @toR i t m hu h1 h2 h3 h4 ih =>
    have hr := hu.rng hS.pq hS.ql
    refine ⟨ih.1, fun j hj1 hj2 hx => ?_⟩
    rcases Nat.lt_or_ge j t with hjt | hjt
    · exact ih.2 j hj1 hjt hx
    · have := hS.pq
      exact ⟨i, .toR hu hjt (by omega) (h3.right hc (by omega) (by omega) (by omega)) hx⟩
  | @toL i i' m hu h1 h2 h3 ih =>
    have hr := hu.rng hS.pq hS.ql
    refine ⟨fun j hj1 hj2 hx => ?_, ih.2⟩
    rcases Nat.lt_or_ge i j with hij | hij
    · exact ih.1 j hij hj2 hx
    · have := hS.pq
      exact ⟨m, .toL hu hij (h2.left' hc (by omega) (by omega)) hx⟩
/-- A window: the sets from i on and below m in another order. -/
structure Win (R : List Nat) (i m : Nat) (Z : List Nat) : Prop where
  mem : ∀ K, K ∈ Z ↔ ∃ j, i ≤ j ∧ j < m ∧ gn R j = K
  cons : Cons (R.take i ++ (Z ++ R.drop m))
theorem mem_take {R : List Nat} {i K : Nat} (hi : i ≤ R.length) : K ∈ R.take i ↔ ∃ j, j < i ∧ gn R j = K := by
  rw [mem_gn]
  simp only [List.length_take]
  constructor
  · rintro ⟨j, hj, e⟩
    exact ⟨j, by omega, by rw [← e]; unfold gn; simp [List.getElem?_take, show j < i by omega]⟩
  · rintro ⟨j, hj, e⟩
    exact ⟨j, by omega, by rw [← e]; unfold gn; simp [List.getElem?_take, hj]⟩
theorem mem_drop {R : List Nat} {i K : Nat} : K ∈ R.drop i ↔ ∃ j, i ≤ j ∧ j < R.length ∧ gn R j = K := by
  rw [mem_gn]
  simp only [List.length_drop]
  constructor
  · rintro ⟨j, hj, e⟩
    exact ⟨i + j, by omega, by omega, by rw [← e]; unfold gn; simp [List.getElem?_drop]⟩
  · rintro ⟨j, hj, h2, e⟩
    exact ⟨j - i, by omega, by rw [← e]; unfold gn; simp [List.getElem?_drop, show i + (j - i) = j by omega]⟩
theorem mem_mid {R : List Nat} {i m K : Nat} (hm : m ≤ R.length) (him : i ≤ m) : K ∈ (R.drop i).take (m - i) ↔ ∃ j, i ≤ j ∧ j < m ∧ gn R j = K := by
  rw [mem_take (by simp; omega)]
  constructor
  · rintro ⟨j, hj, e⟩
    exact ⟨i + j, by omega, by omega, by rw [← e]; unfold gn; simp [List.getElem?_drop]⟩
  · rintro ⟨j, hj, h2, e⟩
    exact ⟨j - i, by omega, by rw [← e]; unfold gn; simp [List.getElem?_drop, show i + (j - i) = j by omega]⟩
/-- What is ahead of the cut i and behind it crosses it. -/
theorem cross {R : List Nat} (hc : Cons R) {i a c x : Nat} (ha : a < i) (hic : i ≤ c) (hcl : c < R.length) (h1 : (gn R a).testBit x = true) (h2 : (gn R c).testBit x = true) : Xc R i x :=
  ⟨by omega, hc.at (by omega) (by omega) hcl h1 h2, hc.at (by omega) hic hcl h1 h2⟩
theorem Use.win {N : List Nat} {s S : Nat} {R : List Nat} {p q : Nat} (hS : Sit N s S R p q) {b : Bool} {i m : Nat} (h : Use R p q b i m) :
    ∃ Z, Win R i m Z ∧ (b = false → ∃ K Z', Z = K :: Z' ∧ ∃ j, p ≤ j ∧ j ≤ q ∧ gn R j = K) ∧ (b = true → ∃ K Z', Z = Z' ++ [K] ∧ ∃ j, p ≤ j ∧ j ≤ q ∧ gn R j = K) := by
  have hc := hS.row.cons
  have hpq := hS.pq
  have hql := hS.ql
  have base : ∃ Z, Win R p (q + 1) Z ∧ (∃ K Z', Z = K :: Z' ∧ ∃ j, p ≤ j ∧ j ≤ q ∧ gn R j = K) ∧ (∃ K Z', Z = Z' ++ [K] ∧ ∃ j, p ≤ j ∧ j ≤ q ∧ gn R j = K) := by
    have hmem : ∀ K, K ∈ (R.drop p).take (q + 1 - p) ↔ ∃ j, p ≤ j ∧ j < q + 1 ∧ gn R j = K := fun K => mem_mid (by omega) (by omega)
    have hne : (R.drop p).take (q + 1 - p) ≠ [] := fun e => by
      have : gn R p ∈ (R.drop p).take (q + 1 - p) := (hmem _).2 ⟨p, Nat.le_refl _, by omega, rfl⟩
      rw [e] at this; cases this
    refine ⟨_, ⟨hmem, ?_⟩, ?_, ?_⟩
    · have e1 : R.drop (q + 1) = (R.drop p).drop (q + 1 - p) := by rw [List.drop_drop]; congr 1; omega
      rw [e1, List.take_append_drop, List.take_append_drop]
      exact hc
    · obtain ⟨K, Z', e⟩ := List.exists_cons_of_ne_nil hne
      obtain ⟨j, h1, h2, h3⟩ := (hmem K).1 (by rw [e]; simp)
      exact ⟨K, Z', e, j, h1, by omega, h3⟩
    · obtain ⟨Z', K, e⟩ := (List.eq_nil_or_concat _).resolve_left hne
      rw [List.concat_eq_append] at e
      obtain ⟨j, h1, h2, h3⟩ := (hmem K).1 (by rw [e]; simp)
      exact ⟨K, Z', e, j, h1, by omega, h3⟩
  induction h with
  | baseL =>
    obtain ⟨Z, h1, h2, h3⟩ := base
    exact ⟨Z, h1, fun _ => h2, fun h => by cases h⟩
  | baseR =>
    obtain ⟨Z, h1, h2, h3⟩ := base
    exact ⟨Z, h1, fun h => by (cases h), fun _ => h3⟩
  | @toR i t m hu h1 h2 h3 h4 ih =>
    have hr := hu.rng hS.pq hS.ql
    obtain ⟨Z, hW, hhead, -⟩ := ih
    obtain ⟨K, Z', rfl, j, hj1, hj2, hj3⟩ := hhead rfl
    have hT : R.drop t = (R.drop t).take (m - t) ++ R.drop m := by
      have e1 : R.drop m = (R.drop t).drop (m - t) := by rw [List.drop_drop]; congr 1; omega
      rw [e1, List.take_append_drop]
    have hBm : ∀ L, L ∈ (K :: Z') ++ (R.drop t).take (m - t) ↔ ∃ j, i ≤ j ∧ j < m ∧ gn R j = L := fun L => by
      rw [List.mem_append, hW.mem, mem_mid h2 h1]
      constructor
      · rintro (⟨j, a, b, c⟩ | ⟨j, a, b, c⟩)
        · exact ⟨j, a, by omega, c⟩
        · exact ⟨j, by omega, b, c⟩
      · rintro ⟨j, a, b, c⟩
        rcases Nat.lt_or_ge j t with hjt | hjt
        · exact .inl ⟨j, a, hjt, c⟩
        · exact .inr ⟨j, hjt, b, c⟩
    have hcons : Cons (R.take i ++ (((K :: Z') ++ (R.drop t).take (m - t)) ++ R.drop m)) := by
      have := hW.cons
      rw [hT] at this
      simpa [List.append_assoc] using this
    have hB : Cons ((K :: Z') ++ (R.drop t).take (m - t)) := hcons.sub ((List.sublist_append_left _ _).trans (List.sublist_append_right _ _))
    have hmR : ∀ {L}, L ∈ R.take i ++ ((K :: Z') ++ (R.drop t).take (m - t)) → ∃ j, j < m ∧ gn R j = L := fun {L} hL => by
      rcases List.mem_append.1 hL with h | h
      · obtain ⟨j, a, b⟩ := (mem_take (by omega)).1 h
        exact ⟨j, by omega, b⟩
      · obtain ⟨j, a, b, c⟩ := (hBm L).1 h
        exact ⟨j, b, c⟩
    have hflip := flip (B' := ((K :: Z') ++ (R.drop t).take (m - t)).reverse) hcons hB.rev (fun L hL => List.mem_reverse.1 hL)
      (fun a ha c hcc x hx1 hx2 b hb => by
        obtain ⟨ja, ha1, rfl⟩ := (mem_take (by omega)).1 ha
        have : ∃ jc, i ≤ jc ∧ jc < R.length ∧ gn R jc = c := by
          rcases List.mem_append.1 hcc with h | h
          · obtain ⟨j, a, b, c⟩ := (hBm _).1 h
            exact ⟨j, a, by omega, c⟩
          · obtain ⟨j, a, b, c⟩ := mem_drop.1 h
            exact ⟨j, by omega, b, c⟩
        obtain ⟨jc, hc1, hc2, rfl⟩ := this
        obtain ⟨jb, hb1, hb2, rfl⟩ := (hBm _).1 hb
        exact (h3.right hc (by omega) (by omega) (by omega)) x (cross hc ha1 hc1 hc2 hx1 hx2))
      (fun a ha c hcc x hx1 hx2 b hb => by
        obtain ⟨ja, ha1, rfl⟩ := hmR ha
        obtain ⟨jc, hc1, hc2, rfl⟩ := mem_drop.1 hcc
        have hX := cross hc ha1 hc1 hc2 hx1 hx2
        have hK : K.testBit x = true := by
          rw [← hj3]
          exact (h4.left' hc hj1 (by omega)) x hX
        rcases List.mem_cons.1 (show b ∈ K :: (Z' ++ (R.drop t).take (m - t)) from hb) with rfl | hb
        · exact hK
        · refine hcons K b (gn R jc) ?_ x hK hx2
          have h5 : [b].Sublist (Z' ++ (R.drop t).take (m - t)) := by simpa using hb
          have h6 : [gn R jc].Sublist (R.drop m) := by simpa using hcc
          have h7 : [K, b, gn R jc].Sublist ((K :: (Z' ++ (R.drop t).take (m - t))) ++ R.drop m) := (h5.cons_cons K).append h6
          exact h7.trans (List.sublist_append_right _ _))
    refine ⟨_, ⟨fun L => ?_, hflip⟩, fun h => by (cases h), fun _ => ⟨K, (Z' ++ (R.drop t).take (m - t)).reverse, by simp, j, hj1, hj2, hj3⟩⟩
    rw [List.mem_reverse, hBm]
  | @toL i i' m hu h1 h2 h3 ih =>
    have hr := hu.rng hS.pq hS.ql
    obtain ⟨Z, hW, -, hlast⟩ := ih
    obtain ⟨K, Z', rfl, j, hj1, hj2, hj3⟩ := hlast rfl
    have hT : R.take i = R.take i' ++ (R.drop i').take (i - i') := by
      have e1 : R.take i' = (R.take i).take i' := by rw [List.take_take]; congr 1; omega
      have e2 : (R.drop i').take (i - i') = (R.take i).drop i' := by rw [List.drop_take]
      rw [e1, e2, List.take_append_drop]
    have hBm : ∀ L, L ∈ (R.drop i').take (i - i') ++ (Z' ++ [K]) ↔ ∃ j, i' ≤ j ∧ j < m ∧ gn R j = L := fun L => by
      rw [List.mem_append, hW.mem, mem_mid (by omega) h1]
      constructor
      · rintro (⟨j, a, b, c⟩ | ⟨j, a, b, c⟩)
        · exact ⟨j, a, by omega, c⟩
        · exact ⟨j, by omega, b, c⟩
      · rintro ⟨j, a, b, c⟩
        rcases Nat.lt_or_ge j i with hjt | hjt
        · exact .inl ⟨j, a, hjt, c⟩
        · exact .inr ⟨j, hjt, b, c⟩
    have hcons : Cons (R.take i' ++ (((R.drop i').take (i - i') ++ (Z' ++ [K])) ++ R.drop m)) := by
      have := hW.cons
      rw [hT] at this
      simpa [List.append_assoc] using this
    have hB : Cons ((R.drop i').take (i - i') ++ (Z' ++ [K])) := hcons.sub ((List.sublist_append_left _ _).trans (List.sublist_append_right _ _))
    have hmD : ∀ {L}, L ∈ ((R.drop i').take (i - i') ++ (Z' ++ [K])) ++ R.drop m → ∃ j, i' ≤ j ∧ j < R.length ∧ gn R j = L := fun {L} hL => by
      rcases List.mem_append.1 hL with h | h
      · obtain ⟨j, a, b, c⟩ := (hBm L).1 h
        exact ⟨j, a, by omega, c⟩
      · obtain ⟨j, a, b, c⟩ := mem_drop.1 h
        exact ⟨j, by omega, b, c⟩
    have hflip := flip (B' := ((R.drop i').take (i - i') ++ (Z' ++ [K])).reverse) hcons hB.rev (fun L hL => List.mem_reverse.1 hL)
      (fun a ha c hcc x hx1 hx2 b hb => by
        obtain ⟨ja, ha1, rfl⟩ := (mem_take (by omega)).1 ha
        obtain ⟨jc, hc1, hc2, rfl⟩ := hmD hcc
        have hX := cross hc ha1 hc1 hc2 hx1 hx2
        have hK : K.testBit x = true := by
          rw [← hj3]
          exact (h3.right hc (by omega) (by omega) (by omega)) x hX
        rw [← List.append_assoc] at hb
        rcases List.mem_append.1 hb with hb | hb
        · refine hcons (gn R ja) b K ?_ x hx1 hK
          have h5 : [b].Sublist ((R.drop i').take (i - i') ++ Z') := by simpa using hb
          have h6 : [gn R ja].Sublist (R.take i') := by simpa using ha
          have h8 : [b, K].Sublist (((R.drop i').take (i - i') ++ Z') ++ [K]) := h5.append (List.Sublist.refl [K])
          have h7 : [gn R ja, b, K].Sublist (R.take i' ++ (((R.drop i').take (i - i') ++ Z') ++ [K])) := h6.append h8
          have h9 := h7.trans (List.sublist_append_left (R.take i' ++ (((R.drop i').take (i - i') ++ Z') ++ [K])) (R.drop m))
          simpa [List.append_assoc] using h9
        · have : b = K := by simpa using hb
          rw [this]; exact hK)
      (fun a ha c hcc x hx1 hx2 b hb => by
        have : ∃ ja, ja < m ∧ gn R ja = a := by
          rcases List.mem_append.1 ha with h | h
          · obtain ⟨j, a, b⟩ := (mem_take (by omega)).1 h
            exact ⟨j, by omega, b⟩
          · obtain ⟨j, a, b, c⟩ := (hBm _).1 h
            exact ⟨j, b, c⟩
        obtain ⟨ja, ha1, rfl⟩ := this
        obtain ⟨jc, hc1, hc2, rfl⟩ := mem_drop.1 hcc
        obtain ⟨jb, hb1, hb2, rfl⟩ := (hBm _).1 hb
        exact (h2.left' hc hb1 (by omega)) x (cross hc ha1 hc1 hc2 hx1 hx2))
    refine ⟨_, ⟨fun L => ?_, hflip⟩, fun _ => ⟨K, ((R.drop i').take (i - i') ++ Z').reverse, by simp, j, hj1, hj2, hj3⟩, fun h => by (cases h)⟩
    rw [List.mem_reverse, hBm]
/-- The clique of two neighbours lies in a set of the row. -/
theorem Row.two {N : List Nat} (hN : VN N) {s : Nat} {R : List Nat} (h : Row N s R) {x y : Nat} (hx : s.testBit x = true) (hy : s.testBit y = true) (he : E N x y) : ∃ j, j < R.length ∧ (gn R j).testBit x = true ∧ (gn R j).testBit y = true := by
  have bit : ∀ i, (2 ^ x ||| 2 ^ y).testBit i = true ↔ i = x ∨ i = y := fun i => by
    rw [Nat.testBit_or, two_bit, two_bit, Bool.or_eq_true, decide_eq_true_eq, decide_eq_true_eq]
    constructor
    · rintro (h | h)
      · exact .inl h.symm
      · exact .inr h.symm
    · rintro (h | h)
      · exact .inl h.symm
      · exact .inr h.symm
  obtain ⟨K, hK, hsub⟩ := h.cov (2 ^ x ||| 2 ^ y) (fun i hi j hj hne => by
    rcases (bit i).1 hi with rfl | rfl <;> rcases (bit j).1 hj with rfl | rfl
    · exact absurd rfl hne
    · exact he
    · exact he.symm hN
    · exact absurd rfl hne) (fun i hi => by rcases (bit i).1 hi with rfl | rfl <;> assumption)
  obtain ⟨j, hj, rfl⟩ := mem_gn.1 hK
  exact ⟨j, hj, hsub x ((bit x).2 (.inl rfl)), hsub y ((bit y).2 (.inr rfl))⟩
theorem ins {N : List Nat} (hN : VN N) {s S v : Nat} {R A B : List Nat} (hr : Row N s R) (hv : s.testBit v = false) (hS : ∀ x, S.testBit x = true ↔ s.testBit x = true ∧ E N v x) (hq : Clq N S) (hm : ∀ K, K ∈ A ++ B ↔ K ∈ R) (hc : Cons (A ++ B))
    (hA : ∀ a ∈ A, ∀ c ∈ B, ∀ x, a.testBit x = true → c.testBit x = true → S.testBit x = true)
    (hn : (∃ K A', A = A' ++ [K] ∧ ∀ x, S.testBit x = true → K.testBit x = true) ∨ ∃ K B', B = K :: B' ∧ ∀ x, S.testBit x = true → K.testBit x = true) : ∃ R', Row N (s ||| 2 ^ v) R' := by
  have bit : ∀ T x, (T ||| 2 ^ v).testBit x = true ↔ T.testBit x = true ∨ x = v := fun T x => by
    rw [Nat.testBit_or, two_bit, Bool.or_eq_true, decide_eq_true_eq]
    constructor
    · rintro (h | h)
      · exact .inl h
      · exact .inr h.symm
    · rintro (h | h)
      · exact .inl h
      · exact .inr h.symm
  have hSv : S.testBit v = false := by
    cases h : S.testBit v with
    | false => rfl
    | true => rw [((hS v).1 h).1] at hv; cases hv
  have hmv : ∀ K ∈ A ++ B, K.testBit v = false := fun K hK => by
    cases h : K.testBit v with
    | false => rfl
    | true => rw [(hr.clq K ((hm K).1 hK)).2 v h] at hv; cases hv
  have memD : ∀ K, K ∈ A ++ (S ||| 2 ^ v) :: B ↔ K = S ||| 2 ^ v ∨ K ∈ A ++ B := fun K => by
    simp only [List.mem_append, List.mem_cons]
    constructor
    · rintro (h | h | h)
      · exact .inr (.inl h)
      · exact .inl h
      · exact .inr (.inr h)
    · rintro (h | h | h)
      · exact .inr (.inl h)
      · exact .inl h
      · exact .inr (.inr h)
  refine ⟨A ++ (S ||| 2 ^ v) :: B, ⟨fun K hK => ?_, fun K hKq hK => ?_, insert hc hmv hSv hA hn⟩⟩
  · rcases (memD K).1 hK with rfl | hK
    · refine ⟨fun i hi j hj hne => ?_, fun x hx => (bit s x).2 ?_⟩
      · rcases (bit S i).1 hi with hi2 | e1 <;> rcases (bit S j).1 hj with hj2 | e2
        · exact hq i hi2 j hj2 hne
        · rw [e2]; exact (((hS i).1 hi2).2).symm hN
        · rw [e1]; exact ((hS j).1 hj2).2
        · exact absurd (e2.trans e1.symm) hne
      · rcases (bit S x).1 hx with hx | rfl
        · exact .inl ((hS x).1 hx).1
        · exact .inr rfl
    · have := hr.clq K ((hm K).1 hK)
      exact ⟨this.1, fun x hx => (bit s x).2 (.inl (this.2 x hx))⟩
  · cases hb : K.testBit v with
    | true =>
      refine ⟨S ||| 2 ^ v, (memD _).2 (.inl rfl), fun x hx => (bit S x).2 ?_⟩
      by_cases e : x = v
      · exact .inr e
      · refine .inl ((hS x).2 ⟨?_, hKq v hb x hx e⟩)
        rcases (bit s x).1 (hK x hx) with h | h
        · exact h
        · exact absurd h e
    | false =>
      obtain ⟨K', hK', hsub⟩ := hr.cov K hKq fun x hx => by
        rcases (bit s x).1 (hK x hx) with h | h
        · exact h
        · subst h; rw [hb] at hx; cases hx
      exact ⟨K', (memD K').2 (.inr ((hm K').2 hK')), hsub⟩
theorem chain {N : List Nat} {s : Nat} {R : List Nat} (hr : Row N s R) {T : Nat → Prop} {j : Nat} : ∀ l, j ≤ l → l < R.length → (∀ m, j < m → m ≤ l → ∃ e, Xc R m e ∧ T e) → ∀ {x y}, (gn R j).testBit x = true → T x → (gn R l).testBit y = true → T y → Rch N T x y := by
  intro l hjl hl hX x y hx hTx hy hTy
  have join : ∀ {z k}, k < R.length → Rch N T x z → (gn R k).testBit z = true → ∀ {y}, (gn R k).testBit y = true → T y → Rch N T x y := fun {z k} hk hz h1 {y} h2 hTy => by
    by_cases e : y = z
    · subst e; exact hz
    · exact .step hz ((hr.clq _ (mem_gn.2 ⟨k, hk, rfl⟩)).1 z h1 y h2 e) hTy
  induction l generalizing y with
  | zero =>
    have : j = 0 := by omega
    subst this
    exact join hl (.base hTx) hx hy hTy
  | succ l ih =>
    by_cases e : j = l + 1
    · subst e; exact join hl (.base hTx) hx hy hTy
    · obtain ⟨z, ⟨_, h2, h3⟩, hTz⟩ := hX (l + 1) (by omega) (Nat.le_refl _)
      have := ih (by omega) (by omega) (fun m h1 h2 => hX m h1 (by omega)) (y := z) (by simpa using h2) hTz
      exact join hl this h3 hy hTy
theorem exists_greatest {P : Nat → Prop} {B : Nat} (hB : ∀ k, P k → k < B) : ∀ n, P n → ∃ m, P m ∧ ∀ k, m < k → ¬ P k := by
  intro n hn
  obtain ⟨d, ⟨h1, h2⟩, h3⟩ := exists_least (P := fun d => d ≤ B ∧ P (B - d)) (B - n) ⟨by omega, by have := hB n hn; rwa [show B - (B - n) = n by omega]⟩
  refine ⟨B - d, h2, fun k hk hp => ?_⟩
  have := hB k hp
  exact h3 (B - k) (by omega) ⟨by omega, by rwa [show B - (B - k) = k by omega]⟩
theorem not_in {R : List Nat} {m K : Nat} (h : ¬ XIn R m K) : ∃ e, Xc R m e ∧ K.testBit e = false := Classical.byContradiction fun hno => h fun x hx => by
  cases hb : K.testBit x with
  | true => rfl
  | false => exact absurd ⟨x, hx, hb⟩ hno
/-- A node whose neighbours in s are a clique joins a row of s, or three nodes are apart. -/
theorem step_row {N : List Nat} (hN : VN N) (hat : ∀ a b c, ¬ AT N a b c) {s S v : Nat} {R : List Nat} {p q : Nat} (hS : Sit N s S R p q) (hs : s < 2 ^ N.length) (hvl : v < N.length) (hv : s.testBit v = false)
    (hSS : ∀ x, S.testBit x = true ↔ s.testBit x = true ∧ E N v x) (hq : Clq N S) : ∃ R', Row N (s ||| 2 ^ v) R' := Classical.byContradiction fun hno => by
  have hc := hS.row.cons
  have hpq := hS.pq
  have hql := hS.ql
  have inSw : ∀ K, (∃ j, p ≤ j ∧ j ≤ q ∧ gn R j = K) → ∀ x, S.testBit x = true → K.testBit x = true := by
    rintro K ⟨j, h1, h2, rfl⟩
    exact hS.inS j h1 h2
  -- where an insertion is at hand
  have noR : ∀ i m, Use R p q true i m → ¬ XIn R m S := fun i m hu hx => by
    have hr := hu.rng hpq hql
    obtain ⟨Z, hW, -, h2⟩ := hu.win hS
    obtain ⟨K, Z', rfl, hK⟩ := h2 rfl
    refine hno (ins hN (A := R.take i ++ (Z' ++ [K])) (B := R.drop m) hS.row hv hSS hq (fun L => ?_) (by have := hW.cons; simpa [List.append_assoc] using this) (fun a ha c hcc x h1 h2 => ?_) (.inl ⟨K, R.take i ++ Z', by simp [List.append_assoc], inSw K hK⟩))
    · rw [List.mem_append, List.mem_append, mem_take (by omega), hW.mem, mem_drop, mem_gn]
      constructor
      · rintro ((⟨j, a, b⟩ | ⟨j, a, b, c⟩) | ⟨j, a, b, c⟩)
        · exact ⟨j, by omega, b⟩
        · exact ⟨j, by omega, c⟩
        · exact ⟨j, b, c⟩
      · rintro ⟨j, a, b⟩
        by_cases h1 : j < i
        · exact .inl (.inl ⟨j, h1, b⟩)
        · by_cases h2 : j < m
          · exact .inl (.inr ⟨j, by omega, h2, b⟩)
          · exact .inr ⟨j, by omega, a, b⟩
    · obtain ⟨jc, c1, c2, rfl⟩ := mem_drop.1 hcc
      have : ∃ ja, ja < m ∧ gn R ja = a := by
        rcases List.mem_append.1 ha with h | h
        · obtain ⟨j, a, b⟩ := (mem_take (by omega)).1 h
          exact ⟨j, by omega, b⟩
        · obtain ⟨j, a, b, c⟩ := (hW.mem _).1 h
          exact ⟨j, b, c⟩
      obtain ⟨ja, a1, rfl⟩ := this
      exact hx x (cross hc a1 c1 c2 h1 h2)
  have noL : ∀ i m, Use R p q false i m → ¬ XIn R i S := fun i m hu hx => by
    have hr := hu.rng hpq hql
    obtain ⟨Z, hW, h2, -⟩ := hu.win hS
    obtain ⟨K, Z', rfl, hK⟩ := h2 rfl
    refine hno (ins hN (A := R.take i) (B := (K :: Z') ++ R.drop m) hS.row hv hSS hq (fun L => ?_) hW.cons (fun a ha c hcc x h1 h2 => ?_) (.inr ⟨K, Z' ++ R.drop m, rfl, inSw K hK⟩))
    · rw [List.mem_append, List.mem_append, mem_take (by omega), hW.mem, mem_drop, mem_gn]
      constructor
      · rintro (⟨j, a, b⟩ | ⟨j, a, b, c⟩ | ⟨j, a, b, c⟩)
        · exact ⟨j, by omega, b⟩
        · exact ⟨j, by omega, c⟩
        · exact ⟨j, b, c⟩
      · rintro ⟨j, a, b⟩
        by_cases h1 : j < i
        · exact .inl ⟨j, h1, b⟩
        · by_cases h2 : j < m
          · exact .inr (.inl ⟨j, by omega, h2, b⟩)
          · exact .inr (.inr ⟨j, by omega, a, b⟩)
    · obtain ⟨ja, a1, rfl⟩ := (mem_take (by omega)).1 ha
      have : ∃ jc, i ≤ jc ∧ jc < R.length ∧ gn R jc = c := by
        rcases List.mem_append.1 hcc with h | h
        · obtain ⟨j, a, b, c⟩ := (hW.mem _).1 h
          exact ⟨j, a, by omega, c⟩
        · obtain ⟨j, a, b, c⟩ := mem_drop.1 h
          exact ⟨j, by omega, b, c⟩
      obtain ⟨jc, c1, c2, rfl⟩ := this
      exact hx x (cross hc a1 c1 c2 h1 h2)
  have noM : ∀ m, p < m → m ≤ q → ¬ XIn R m S := fun m h1 h2 hx => by
    refine hno (ins hN (A := R.take m) (B := R.drop m) hS.row hv hSS hq (fun L => by rw [List.take_append_drop]) (by rw [List.take_append_drop]; exact hc) (fun a ha c hcc x h1 h2 => ?_) (.inr ⟨gn R m, R.drop (m + 1), by rw [List.drop_eq_getElem_cons (by omega), gn_get (by omega)], hS.inS m (by omega) h2⟩))
    obtain ⟨ja, a1, rfl⟩ := (mem_take (by omega)).1 ha
    obtain ⟨jc, c1, c2, rfl⟩ := mem_drop.1 hcc
    exact hx x (cross hc a1 c1 c2 h1 h2)
  -- the windows' ends
  obtain ⟨b, ⟨hb1, hb2, hb3⟩, hbmax⟩ := exists_greatest (P := fun b => q ≤ b ∧ b < R.length ∧ (b = q ∨ ∃ i t, Use R p q false i t ∧ XIn R i (gn R b))) (B := R.length) (fun k h => h.2.1) q ⟨Nat.le_refl _, hql, .inl rfl⟩
  obtain ⟨a, ⟨ha1, ha2⟩, hamin⟩ := exists_least (P := fun a => a ≤ p ∧ (a = p ∨ ∃ i m, Use R p q true i m ∧ XIn R m (gn R a))) p ⟨Nat.le_refl _, .inl rfl⟩
  have hbl : b + 1 < R.length := Classical.byContradiction fun hge => by
    have e : b = R.length - 1 := by omega
    rcases hb3 with h | ⟨i, t, hu, hx⟩
    · exact noR p (q + 1) .baseR (xin_end (by omega))
    · have hr := hu.rng hpq hql
      exact noR i R.length (.toR hu (by omega) (Nat.le_refl _) (by rw [← e]; exact hx) (xin_end (Nat.le_refl _))) (xin_end (Nat.le_refl _))
  have ha0 : 1 ≤ a := Classical.byContradiction fun hge => by
    have e : a = 0 := by omega
    subst e
    rcases ha2 with h | ⟨i, m, hu, hx⟩
    · exact noL p (q + 1) .baseL (by rw [← h]; exact xin_zero)
    · exact noL 0 m (.toL hu (by omega) hx xin_zero) xin_zero
  have lemA : ∀ m, a ≤ m → m ≤ p → XIn R m (gn R q) → ∃ t, Use R p q false m t := fun m h1 h2 hx => by
    by_cases e : m = p
    · subst e; exact ⟨_, .baseL⟩
    rcases ha2 with h | ⟨i, m', hu, hx'⟩
    · omega
    · have hr := hu.rng hpq hql
      by_cases hi : m ≤ i
      · exact ⟨m', .toL hu hi (hx'.left' hc h1 (by omega)) hx⟩
      · exact (hu.back hS).1 m (by omega) h2 hx
  have lemB : ∀ m, q < m → m ≤ b + 1 → XIn R m (gn R p) → ∃ i, Use R p q true i m := fun m h1 h2 hx => by
    by_cases e : m = q + 1
    · subst e; exact ⟨_, .baseR⟩
    rcases hb3 with h | ⟨i, t, hu, hx'⟩
    · omega
    · have hr := hu.rng hpq hql
      by_cases hi : t ≤ m
      · exact ⟨i, .toR hu hi (by omega) (hx'.right hc (by omega) (by omega) (by omega)) hx⟩
      · exact (hu.back hS).2 m h1 (by omega) hx
  -- nothing is missing on the three ways
  have w1 : ∀ m, a ≤ m → m ≤ b + 1 → ¬ XIn R m S := fun m h1 h2 hx => by
    rcases Nat.lt_or_ge p m with h3 | h3
    · rcases Nat.lt_or_ge q m with h4 | h4
      · obtain ⟨i, hu⟩ := lemB m h4 h2 fun x hxc => hS.inS p (Nat.le_refl _) hpq x (hx x hxc)
        exact noR i m hu hx
      · exact noM m h3 h4 hx
    · obtain ⟨t, hu⟩ := lemA m h1 h3 fun x hxc => hS.inS q hpq (Nat.le_refl _) x (hx x hxc)
      exact noL m t hu hx
  have w2 : ∀ m, a ≤ m → m ≤ p → ¬ XIn R m (gn R (b + 1)) := fun m h1 h2 hx => by
    obtain ⟨t, hu⟩ := lemA m h1 h2 (hx.right hc (by omega) (by omega) hbl)
    exact hbmax (b + 1) (by omega) ⟨by omega, hbl, .inr ⟨m, t, hu, hx⟩⟩
  have w3 : ∀ m, q < m → m ≤ b + 1 → ¬ XIn R m (gn R (a - 1)) := fun m h1 h2 hx => by
    obtain ⟨i, hu⟩ := lemB m h1 h2 (hx.left' hc (by omega) (by omega))
    exact hamin (a - 1) (by omega) ⟨by omega, .inr ⟨i, m, hu, hx⟩⟩
  -- the two others
  obtain ⟨⟨u, hu1, hu2⟩, -⟩ := hS.red (a - 1) (by omega)
  rw [show a - 1 + 1 = a by omega] at hu2
  obtain ⟨-, w, hw1, hw2⟩ := hS.red b hbl
  have ins' : ∀ {j x}, j < R.length → (gn R j).testBit x = true → s.testBit x = true := fun hj hx => (hS.row.clq _ (mem_gn.2 ⟨_, hj, rfl⟩)).2 _ hx
  have hus := ins' (by omega) hu1
  have hws := ins' hbl hw1
  have farU : ∀ {y j}, (gn R j).testBit y = true → a ≤ j → j < R.length → (gn R (a - 1)).testBit y = false → (away N u).testBit y = true := fun {y j} h1 h2 h3 h4 => by
    rw [away_bit]
    refine ⟨bit_lt hs (ins' h3 h1), fun he => ?_, fun e => ?_⟩
    · obtain ⟨k, k1, k2, k3⟩ := hS.row.two hN hus (ins' h3 h1) he
      rcases Nat.lt_or_ge k a with hk | hk
      · have := hc.at (i := k) (j := a - 1) (by omega) (by omega) h3 k3 h1
        rw [h4] at this; cases this
      · have := hc.at (i := a - 1) (j := a) (by omega) hk k1 hu1 k2
        rw [hu2] at this; cases this
    · subst e; rw [h4] at hu1; cases hu1
  have farW : ∀ {y j}, (gn R j).testBit y = true → j ≤ b → (gn R (b + 1)).testBit y = false → (away N w).testBit y = true := fun {y j} h1 h2 h4 => by
    rw [away_bit]
    refine ⟨bit_lt hs (ins' (by omega) h1), fun he => ?_, fun e => ?_⟩
    · obtain ⟨k, k1, k2, k3⟩ := hS.row.two hN hws (ins' (by omega) h1) he
      rcases Nat.lt_or_ge b k with hk | hk
      · have := hc.at (i := j) (j := b + 1) (by omega) (by omega) k1 h1 k3
        rw [h4] at this; cases this
      · have := hc.at (i := k) (j := b) hk (by omega) hbl k2 hw1
        rw [hw2] at this; cases this
    · subst e; rw [h4] at hw1; cases hw1
  have farV : ∀ {y}, s.testBit y = true → S.testBit y = false → (away N v).testBit y = true := fun {y} h1 h2 => by
    rw [away_bit]
    refine ⟨bit_lt hs h1, fun he => ?_, fun e => ?_⟩
    · rw [(hSS y).2 ⟨h1, he⟩] at h2; cases h2
    · subst e; rw [hv] at h1; cases h1
  have huS : S.testBit u = false := by
    cases h : S.testBit u with
    | false => rfl
    | true =>
      have := hc.at (i := a - 1) (j := a) (by omega) ha1 (by omega) hu1 (hS.inS p (Nat.le_refl _) hpq u h)
      rw [hu2] at this; cases this
  have hwS : S.testBit w = false := by
    cases h : S.testBit w with
    | false => rfl
    | true =>
      have := hc.at (i := q) (j := b) hb1 (by omega) hbl (hS.inS q hpq (Nat.le_refl _) w h) hw1
      rw [hw2] at this; cases this
  have huw : (gn R (b + 1)).testBit u = false := by
    cases h : (gn R (b + 1)).testBit u with
    | false => rfl
    | true =>
      have := hc.at (i := a - 1) (j := a) (by omega) (by omega) hbl hu1 h
      rw [hu2] at this; cases this
  have hwu : (gn R (a - 1)).testBit w = false := by
    cases h : (gn R (a - 1)).testBit w with
    | false => rfl
    | true =>
      have := hc.at (i := a - 1) (j := b) (by omega) (by omega) hbl h hw1
      rw [hw2] at this; cases this
  have vu := away_bit.1 (farV hus huS)
  have vw := away_bit.1 (farV hws hwS)
  have uw := away_bit.1 (farU hw1 (by omega) hbl hwu)
  have wu := away_bit.1 (farW (j := a - 1) hu1 (by omega) huw)
  obtain ⟨s1, hs1, hs1'⟩ := hS.before (a - 1) (by omega)
  obtain ⟨s2, hs2, hs2'⟩ := hS.behind (b + 1) (by omega) hbl
  have s1q := hS.inS q hpq (Nat.le_refl _) s1 hs1
  have s2p := hS.inS p (Nat.le_refl _) hpq s2 hs2
  have vE1 : E N v s1 := ((hSS s1).1 hs1).2
  have vE2 : E N v s2 := ((hSS s2).1 hs2).2
  refine hat v u w ⟨fun e => vu.2.2 e.symm, fun e => vw.2.2 e.symm, fun e => uw.2.2 e.symm, vu.2.1, vw.2.1, uw.2.1, ?_, ?_, ?_⟩
  · refine chain (T := fun j => (away N v).testBit j = true) hS.row (j := a - 1) (b + 1) (by omega) hbl (fun m h1 h2 => ?_) hu1 (farV hus huS) hw1 (farV hws hwS)
    obtain ⟨e, he, hne⟩ := not_in (w1 m (by omega) h2)
    exact ⟨e, he, farV (ins' (by omega) he.2.2) hne⟩
  · have h1 := chain (T := fun j => (away N u).testBit j = true) hS.row (j := q) (b + 1) (by omega) hbl (fun m h1 h2 => by
      obtain ⟨e, he, hne⟩ := not_in (w3 m h1 h2)
      exact ⟨e, he, farU he.2.2 (by omega) (by omega) hne⟩) s1q (farU s1q (by omega) hql hs1') hw1 (farU hw1 (by omega) hbl hwu)
    exact Rch.symm hN (.step (Rch.symm hN h1) (vE1.symm hN) (away_bit.2 ⟨hvl, fun e => vu.2.1 (e.symm hN), fun e => vu.2.2 e.symm⟩))
  · have h1 := chain (T := fun j => (away N w).testBit j = true) hS.row (j := a - 1) p (by omega) (by omega) (fun m h1 h2 => by
      obtain ⟨e, he, hne⟩ := not_in (w2 m (by omega) h2)
      exact ⟨e, he, farW he.2.2 (by omega) hne⟩) hu1 (farW (j := a - 1) hu1 (by omega) huw) s2p (farW s2p (by omega) hs2')
    exact Rch.symm hN (.step h1 (vE2.symm hN) (away_bit.2 ⟨hvl, fun e => vw.2.1 (e.symm hN), fun e => vw.2.2 e.symm⟩))
/-- Lekkerkerker and Boland: without holes and without three nodes apart the cliques can be put in a row. -/
theorem has_row {N : List Nat} (hN : VN N) (hno : ∀ l, ¬ HoleP N l) (hat : ∀ a b c, ¬ AT N a b c) : ∀ (k s : Nat), s < 2 ^ N.length → pc s ≤ k → ∃ R, Row N s R := by
  intro k
  induction k with
  | zero =>
    intro s hs hk
    have h4 : s < 4096 := Nat.lt_of_lt_of_le hs hN.pow
    have : s = 0 := (pc_zero h4).1 (by omega)
    subst this
    exact ⟨[0], ⟨fun K hK => by
      have : K = 0 := by simpa using hK
      subst this
      exact ⟨fun i hi => by simp at hi, fun x hx => hx⟩, fun K _ hK => ⟨0, by simp, hK⟩, fun a b c h => by have := h.length_le; simp at this⟩⟩
  | succ k ih =>
    intro s hs hk
    have h12 := hN.le
    by_cases h0 : s = 0
    · exact ih s hs (by subst h0; exact Nat.zero_le _)
    obtain ⟨v, hvs, hvq⟩ := simplicial hN hno hs h0
    have hvl := bit_lt hs hvs
    have hpc := pc_sub hvs (by omega)
    obtain ⟨R, hR, hred⟩ := Row.reduced (ih (nSub s (2 ^ v)) (nSub_lt hs) (by omega))
    have bitS : ∀ x, (nb N v &&& s).testBit x = true ↔ (nSub s (2 ^ v)).testBit x = true ∧ E N v x := fun x => by
      rw [Nat.testBit_and, nSub_bit, two_bit, Bool.and_eq_true, Bool.and_eq_true, Bool.not_eq_true', decide_eq_false_iff_not]
      constructor
      · rintro ⟨h1, h2⟩; exact ⟨⟨h2, fun e => E.ne hN h1 e⟩, h1⟩
      · rintro ⟨⟨h1, _⟩, h2⟩; exact ⟨h2, h1⟩
    obtain ⟨K, hK, hsub⟩ := hR.cov (nb N v &&& s) hvq fun x hx => ((bitS x).1 hx).1
    obtain ⟨j0, hj0, rfl⟩ := mem_gn.1 hK
    let P := fun j => j < R.length ∧ ∀ x, (nb N v &&& s).testBit x = true → (gn R j).testBit x = true
    obtain ⟨p, hp, hpm⟩ := exists_least (P := P) j0 ⟨hj0, hsub⟩
    obtain ⟨q, hq, hqm⟩ := exists_greatest (P := P) (B := R.length) (fun k h => h.1) j0 ⟨hj0, hsub⟩
    have hpq : p ≤ q := Nat.le_of_not_lt fun h => hqm p h hp
    have no : ∀ j, j < R.length → ¬ P j → ∃ x, (nb N v &&& s).testBit x = true ∧ (gn R j).testBit x = false := fun j hj hn => Classical.byContradiction fun hne => hn ⟨hj, fun x hx => by
      cases hb : (gn R j).testBit x with
      | true => rfl
      | false => exact absurd ⟨x, hx, hb⟩ hne⟩
    have hsit : Sit N (nSub s (2 ^ v)) (nb N v &&& s) R p q := ⟨hR, hred, hpq, hq.1, fun j h1 h2 x hx => hR.cons.at h1 h2 hq.1 (hp.2 x hx) (hq.2 x hx), fun j hj => no j (by have := hp.1; omega) (hpm j hj), fun j h1 h2 => no j h2 (hqm j h1)⟩
    obtain ⟨R', hR'⟩ := step_row hN hat hsit (nSub_lt hs) hvl (by rw [nSub_bit, two_bit]; simp) bitS hvq
    have : nSub s (2 ^ v) ||| 2 ^ v = s := by
      apply Nat.eq_of_testBit_eq
      intro i
      rw [Nat.testBit_or, nSub_bit, two_bit]
      by_cases e : v = i
      · subst e; simp [hvs]
      · simp [e]
    rw [this] at hR'
    exact ⟨R', hR'⟩
end Go.Proofs.YtmpjanpmkmlloaaDoor
