/- Three nodes that are apart. No program, no condition. -/
import Derived.Test.YtmpjanpmkmlloaaDoorGd
namespace Go.Proofs.YtmpjanpmkmlloaaDoor
open Go Go.RowKit VC
set_option linter.unusedSimpArgs false
set_option linter.unusedVariables false

/-- Not a node, nor a neighbour of it. -/
def away (N : List Nat) (z : Nat) : Nat := nSub (nSub (al N) (nb N z)) (2 ^ z)
theorem away_bit {N : List Nat} {z j : Nat} : (away N z).testBit j = true ↔ j < N.length ∧ ¬ E N z j ∧ j ≠ z := by
  unfold away E
  rw [nSub_bit, nSub_bit, al_bit, two_bit]
  cases h : (nb N z).testBit j <;> simp
  intro _
  constructor
  · intro h e; exact h e.symm
  · intro h e; exact h e.symm
theorem away_lt (N : List Nat) (z : Nat) : away N z < 2 ^ N.length := nSub_lt (nSub_lt (al_lt N))
/-- A way from x to y that avoids z and its neighbours. -/
def Link (N : List Nat) (z x y : Nat) : Prop := Rch N (fun j => (away N z).testBit j = true) x y
/-- What is asked of each of the three. -/
def apP (N : List Nat) (z x y : Nat) : Prop := x ≠ y ∧ ¬ E N x y ∧ (away N z).testBit x = true ∧ Link N z x y
/-- Three nodes are apart. -/
structure AT (N : List Nat) (a b c : Nat) : Prop where
  ab : a ≠ b
  ac : a ≠ c
  bc : b ≠ c
  nab : ¬ E N a b
  nac : ¬ E N a c
  nbc : ¬ E N b c
  la : Link N a b c
  lb : Link N b a c
  lc : Link N c a b
theorem Rch.symm {N : List Nat} (hN : VN N) {t : Nat → Prop} {x y : Nat} (h : Rch N t x y) : Rch N t y x := by
  have key : ∀ {a}, Rch N t x a → ∀ {b}, Rch N t a b → Rch N t x b := fun h1 => by
    intro b h2
    induction h2 with
    | base _ => exact h1
    | step _ he ht ih => exact .step ih he ht
  have pre : ∀ {a b c}, t a → E N a b → Rch N t b c → Rch N t a c := fun ha he h => by
    induction h with
    | base hb => exact .step (.base ha) he hb
    | step _ he' ht ih => exact .step ih he' ht
  induction h with
  | base hx => exact .base hx
  | step h1 he ht ih => exact pre ht (he.symm hN) ih
theorem Rch.start {N : List Nat} {t : Nat → Prop} {x y : Nat} (h : Rch N t x y) : t x := by
  induction h with
  | base h => exact h
  | step _ _ _ ih => exact ih
theorem ap_AT {N : List Nat} (hN : VN N) {a b c : Nat} (ha : a < N.length) (hb : b < N.length) (hc : c < N.length) : (apP N a b c ∧ apP N b c a ∧ apP N c a b) ↔ AT N a b c := by
  have sy : ∀ {i j}, E N i j → E N j i := fun h => h.symm hN
  constructor
  · rintro ⟨⟨h1, h2, h3, h4⟩, ⟨k1, k2, k3, k4⟩, ⟨m1, m2, m3, m4⟩⟩
    exact ⟨m1, k1.symm, h1, m2, fun h => k2 (sy h), h2, h4, Rch.symm hN k4, m4⟩
  · intro h
    refine ⟨⟨h.bc, h.nbc, h.la.start, h.la⟩, ⟨h.ac.symm, fun e => h.nac (sy e), h.lb.mem, Rch.symm hN h.lb⟩, ⟨h.ab, h.nab, h.lc.start, h.lc⟩⟩
open Classical in
/-- The first three nodes that are apart. -/
noncomputable def firstA (N : List Nat) : Option (Nat × Nat × Nat) :=
  (List.range N.length).findSome? fun a => (List.range N.length).findSome? fun b => (List.range N.length).findSome? fun c => if a < b ∧ b < c ∧ AT N a b c then some (a, b, c) else none
theorem AT.swap12 {N : List Nat} (hN : VN N) {a b c : Nat} (h : AT N a b c) : AT N b a c :=
  ⟨h.ab.symm, h.bc, h.ac, fun e => h.nab (e.symm hN), h.nbc, h.nac, h.lb, h.la, Rch.symm hN h.lc⟩
theorem AT.swap23 {N : List Nat} (hN : VN N) {a b c : Nat} (h : AT N a b c) : AT N a c b :=
  ⟨h.ac, h.ab, h.bc.symm, h.nac, h.nab, fun e => h.nbc (e.symm hN), Rch.symm hN h.la, h.lc, h.lb⟩
theorem AT.lt {N : List Nat} {a b c : Nat} (h : AT N a b c) : a < N.length ∧ b < N.length ∧ c < N.length :=
  ⟨(away_bit.1 h.lc.start).1, (away_bit.1 h.la.start).1, (away_bit.1 h.la.mem).1⟩
theorem firstA_none {N : List Nat} (hN : VN N) : firstA N = none ↔ ∀ a b c, ¬ AT N a b c := by
  have sorted : (∀ a b c, a < b → b < c → ¬ AT N a b c) → ∀ a b c, ¬ AT N a b c := fun h a b c hat => by
    have n1 := hat.ab; have n2 := hat.ac; have n3 := hat.bc
    have s12 := hat.swap12 hN
    have s23 := hat.swap23 hN
    rcases Nat.lt_or_ge a b with h1 | h1
    · rcases Nat.lt_or_ge b c with h2 | h2
      · exact h a b c h1 h2 hat
      · rcases Nat.lt_or_ge a c with h3 | h3
        · exact h a c b h3 (by omega) s23
        · exact h c a b (by omega) h1 (s23.swap12 hN)
    · rcases Nat.lt_or_ge a c with h2 | h2
      · exact h b a c (by omega) h2 s12
      · rcases Nat.lt_or_ge b c with h3 | h3
        · exact h b c a h3 (by omega) (s12.swap23 hN)
        · exact h c b a (by omega) (by omega) ((s12.swap23 hN).swap12 hN)
  unfold firstA
  simp only [List.findSome?_eq_none_iff, List.mem_range]
  constructor
  · intro h
    refine sorted fun a b c h1 h2 hat => ?_
    obtain ⟨ha, hb, hc⟩ := hat.lt
    have := h a ha b hb c hc
    rw [if_pos ⟨h1, h2, hat⟩] at this
    cases this
  · intro h a _ b _ c _
    rw [if_neg]
    rintro ⟨_, _, hat⟩
    exact h a b c hat
theorem firstA_some {N : List Nat} {a b c : Nat} (h : firstA N = some (a, b, c)) : AT N a b c := by
  unfold firstA at h
  obtain ⟨a', -, h⟩ := List.exists_of_findSome?_eq_some h
  obtain ⟨b', -, h⟩ := List.exists_of_findSome?_eq_some h
  obtain ⟨c', -, h⟩ := List.exists_of_findSome?_eq_some h
  split at h
  · rename_i hh
    simp only [Option.some.injEq, Prod.mk.injEq] at h
    obtain ⟨rfl, rfl, rfl⟩ := h
    exact hh.2.2
  · cases h
end Go.Proofs.YtmpjanpmkmlloaaDoor
