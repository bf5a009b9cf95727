/- Graphs of at most twelve nodes as lists of sets: the plain notions. No program, no condition. -/
import Derived.Test.YtmpjanpmkmlloaaDoorVb
namespace Go.Proofs.YtmpjanpmkmlloaaDoor
open Go Go.RowKit VC
set_option linter.unusedSimpArgs false
set_option linter.unusedVariables false

def ofN (l : List Nat) : List Int := l.map fun n : Nat => (n : Int)
@[simp] theorem ofN_len (l : List Nat) : (ofN l).length = l.length := by simp [ofN]
@[simp] theorem ofN_nil : ofN [] = [] := rfl
theorem ofN_app (a b : List Nat) : ofN (a ++ b) = ofN a ++ ofN b := by simp [ofN]
theorem ofN_get (l : List Nat) (i : Nat) (h : i < (ofN l).length) : (ofN l)[i] = ((l[i]'(by simpa using h) : Nat) : Int) := by simp [ofN]
theorem ofN_inj {a b : List Nat} (h : ofN a = ofN b) : a = b := by
  apply List.ext_getElem
  · have := congrArg List.length h; simpa using this
  · intro i h1 h2
    have h3 : (ofN a)[i]? = (ofN b)[i]? := by rw [h]
    simp [ofN, h1, h2] at h3; omega
/-- A valid graph, as Go's numbers. -/
def VG (G : List Int) : Prop := 1 ≤ G.length ∧ G.length ≤ 12 ∧ ∀ i (hi : i < G.length), 0 ≤ G[i] ∧ G[i] < 2 ^ G.length ∧ ibit G[i] i = 0 ∧ ∀ j (hj : j < G.length), ibit G[i] j = ibit G[j] i
/-- A valid graph, as sets. -/
structure VN (N : List Nat) : Prop where
  one : 1 ≤ N.length
  le : N.length ≤ 12
  lt : ∀ i (hi : i < N.length), N[i] < 2 ^ N.length
  irr : ∀ i (hi : i < N.length), N[i].testBit i = false
  sym : ∀ i j (hi : i < N.length) (hj : j < N.length), N[i].testBit j = N[j].testBit i
theorem VG_ofN {N : List Nat} : VG (ofN N) ↔ VN N := by
  have ib : ∀ (a i : Nat), ibit (a : Int) i = 0 ↔ a.testBit i = false := fun a i => by rw [ibit_nat]; cases a.testBit i <;> simp
  have ib2 : ∀ (a b i j : Nat), ibit (a : Int) i = ibit (b : Int) j ↔ a.testBit i = b.testBit j := fun a b i j => by rw [ibit_nat, ibit_nat]; cases a.testBit i <;> cases b.testBit j <;> simp
  have pw : ∀ (a n : Nat), (a : Int) < 2 ^ n ↔ a < 2 ^ n := fun a n => by
    have : ((2 : Int) ^ n) = ((2 ^ n : Nat) : Int) := by simp
    rw [this]; omega
  constructor
  · rintro ⟨h1, h2, h3⟩
    simp only [ofN_len] at h1 h2
    refine ⟨h1, h2, fun i hi => ?_, fun i hi => ?_, fun i j hi hj => ?_⟩
    · have := (h3 i (by simpa using hi)).2.1
      rw [ofN_get, pw] at this
      simpa using this
    · have := (h3 i (by simpa using hi)).2.2.1
      rw [ofN_get, ib] at this
      exact this
    · have := (h3 i (by simpa using hi)).2.2.2 j (by simpa using hj)
      rw [ofN_get, ofN_get, ib2] at this
      exact this
  · intro h
    refine ⟨by simpa using h.one, by simpa using h.le, fun i hi => ?_⟩
    have hi' : i < N.length := by simpa using hi
    rw [ofN_get]
    refine ⟨by omega, (pw _ _).2 (by simpa using h.lt i hi'), (ib _ _).2 (h.irr i hi'), fun j hj => ?_⟩
    have hj' : j < N.length := by simpa using hj
    rw [ofN_get, ib2]
    exact h.sym i j hi' hj'
theorem VG_nat {G : List Int} (h : VG G) : ∃ N, G = ofN N := by
  refine ⟨G.map Int.toNat, ?_⟩
  apply List.ext_getElem
  · simp [ofN]
  · intro i h1 h2
    have := (h.2.2 i h1).1
    simp [ofN]
    omega
/-- The neighbours of a node. -/
def nb (N : List Nat) (i : Nat) : Nat := N.getD i 0
theorem nb_get {N : List Nat} {i : Nat} (h : i < N.length) : N[i] = nb N i := by simp [nb, h]
theorem VN.nb_lt {N : List Nat} (h : VN N) (i : Nat) : nb N i < 2 ^ N.length := by
  by_cases hi : i < N.length
  · rw [← nb_get hi]; exact h.lt i hi
  · simp [nb, hi]; exact Nat.pow_pos (by omega)
theorem pow12 {n : Nat} (h : n ≤ 12) : 2 ^ n ≤ 4096 := Nat.pow_le_pow_right (by omega) h
theorem VN.pow {N : List Nat} (h : VN N) : 2 ^ N.length ≤ 4096 := pow12 h.le
theorem VN.nb_lt' {N : List Nat} (h : VN N) (i : Nat) : nb N i < 4096 := Nat.lt_of_lt_of_le (h.nb_lt i) h.pow
theorem VN.sym' {N : List Nat} (h : VN N) (i j : Nat) : (nb N i).testBit j = (nb N j).testBit i := by
  by_cases hi : i < N.length
  · by_cases hj : j < N.length
    · rw [← nb_get hi, ← nb_get hj]; exact h.sym i j hi hj
    · have : nb N j = 0 := by simp [nb, hj]
      rw [this, Nat.zero_testBit]
      cases hb : (nb N i).testBit j with
      | false => rfl
      | true => exact absurd (bit_lt (h.nb_lt i) hb) hj
  · have : nb N i = 0 := by simp [nb, hi]
    rw [this, Nat.zero_testBit]
    cases hb : (nb N j).testBit i with
    | false => rfl
    | true => exact absurd (bit_lt (h.nb_lt j) hb) hi
theorem VN.irr' {N : List Nat} (h : VN N) (i : Nat) : (nb N i).testBit i = false := by
  by_cases hi : i < N.length
  · rw [← nb_get hi]; exact h.irr i hi
  · have : nb N i = 0 := by simp [nb, hi]
    rw [this, Nat.zero_testBit]
/-- All nodes. -/
def al (N : List Nat) : Nat := 2 ^ N.length - 1
theorem al_lt (N : List Nat) : al N < 2 ^ N.length := by have : 0 < 2 ^ N.length := Nat.pow_pos (by omega); unfold al; omega
theorem al_bit (N : List Nat) (i : Nat) : (al N).testBit i = decide (i < N.length) := by unfold al; exact Nat.testBit_two_pow_sub_one ..
theorem sub_al {N : List Nat} {s : Nat} : s < 2 ^ N.length ↔ ∀ i, s.testBit i = true → i < N.length := by
  constructor
  · intro h i hb; exact bit_lt h hb
  · intro h
    exact Nat.lt_pow_two_of_testBit _ fun i hi => by
      cases hb : s.testBit i with
      | false => rfl
      | true => have := h i hb; omega
/-- A clique: any two different nodes of it are neighbours. -/
def Clq (N : List Nat) (s : Nat) : Prop := ∀ i, s.testBit i = true → ∀ j, s.testBit j = true → j ≠ i → (nb N i).testBit j = true
def cliq (N : List Nat) (s : Nat) : Bool := (List.range 12).all fun i => !s.testBit i || nSub (nSub s (nb N i)) (2 ^ i) == 0
theorem two_bit (i j : Nat) : (2 ^ i).testBit j = decide (i = j) := Nat.testBit_two_pow ..
theorem row_zero {N : List Nat} {s i : Nat} : nSub (nSub s (nb N i)) (2 ^ i) = 0 ↔ ∀ j, s.testBit j = true → j ≠ i → (nb N i).testBit j = true := by
  rw [set_zero]
  constructor
  · intro h j hj hne
    have := h j
    rw [nSub_bit, nSub_bit, two_bit, hj] at this
    cases hb : (nb N i).testBit j with
    | true => rfl
    | false => rw [hb] at this; simp at this; exact absurd this.symm hne
  · intro h j
    rw [nSub_bit, nSub_bit, two_bit]
    cases hj : s.testBit j with
    | false => simp
    | true =>
      by_cases e : j = i
      · subst e; simp
      · rw [h j hj e]; simp
theorem cliq_iff {N : List Nat} {s : Nat} (hs : s < 4096) : cliq N s = true ↔ Clq N s := by
  simp only [cliq, List.all_eq_true, List.mem_range, Bool.or_eq_true, Bool.not_eq_true', beq_iff_eq, row_zero]
  constructor
  · intro h i hi
    rcases h i (bit_lt (n := 12) hs hi) with h1 | h1
    · rw [hi] at h1; cases h1
    · exact h1
  · intro h i _
    cases hi : s.testBit i with
    | false => exact .inl rfl
    | true => exact .inr (h i hi)
/-- The greedy elimination order of the nodes that are left. -/
def ordN (N : List Nat) : Nat → Nat → Option (List Nat)
  | 0, left => if left = 0 then some [] else none
  | f + 1, left => if left = 0 then some [] else match (els left).find? fun i => cliq N (nb N i &&& left) with
    | none => none
    | some i => (ordN N f (nSub left (2 ^ i))).map (i :: ·)
def ordG (N : List Nat) : Option (List Nat) := ordN N 12 (al N)
end Go.Proofs.YtmpjanpmkmlloaaDoor
