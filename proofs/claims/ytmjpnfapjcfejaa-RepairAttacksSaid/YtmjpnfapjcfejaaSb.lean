/- The list of the attacks; a cycle of attacks is two atoms that attack each other. Of no program. No condition. -/
import Derived.Test.YtmjpnfapjcfejaaSa
import Derived.Test.YtmjpnfapjcfejaaTd
import Derived.Test.YtmjpnfapjcfejaaMi
namespace Go.Proofs.Ytmjpnfapjcfejaa
open VC
set_option linter.unusedSimpArgs false
set_option linter.unusedVariables false

abbrev At3 := Int × Int × Int
/-- The attacks of atom f, on atoms below g; and those of the atoms below f. -/
def atS (V K : List Nat) (f g : Nat) : At3 := ((f : Int), (g : Int), if strN V K f g = true then 1 else 0)
def atG (V K : List Nat) (f k : Nat) : List At3 := ((List.range k).filter (attN V K f)).map (atS V K f)
def atF (V K : List Nat) (k : Nat) : List At3 := (List.range k).flatMap fun f => atG V K f V.length
def attR (V K : List Nat) : List At3 := atF V K V.length
theorem atG_succ (V K : List Nat) (f k : Nat) : atG V K f (k + 1) = if attN V K f k = true then atG V K f k ++ [atS V K f k] else atG V K f k := by
  unfold atG
  rw [List.range_succ, List.filter_append, List.map_append]
  by_cases h : attN V K f k = true
  · rw [if_pos h]
    simp [h]
  · rw [if_neg h]
    simp [h]
theorem atF_succ (V K : List Nat) (k : Nat) : atF V K (k + 1) = atF V K k ++ atG V K k V.length := by
  unfold atF
  rw [List.range_succ, List.flatMap_append]
  simp
theorem atG_le (V K : List Nat) (f k : Nat) : (atG V K f k).length ≤ k := by
  unfold atG
  rw [List.length_map]
  have := List.length_filter_le (attN V K f) (List.range k)
  rwa [List.length_range] at this
theorem atF_le (V K : List Nat) : ∀ k, (atF V K k).length ≤ k * V.length
  | 0 => by simp [atF]
  | k + 1 => by
    rw [atF_succ, List.length_append, Nat.add_mul]
    have := atF_le V K k
    have := atG_le V K k V.length
    omega
def mutN (V K : List Nat) : Prop := ∃ f g, f < V.length ∧ g < V.length ∧ attN V K f g = true ∧ attN V K g f = true
section
variable {kl : Int → Nat} {atoms : List Atm} {D : Nat → Prop} {V K : List Nat}
end
/-! ## Deletion of the atoms that nothing attacks (the program's way) -/
/-- Atom i is left, and no atom that is left attacks it. -/
def freeT (V K : List Nat) (left i : Nat) : Prop := left.testBit i = true ∧ ∀ f, f < V.length → attN V K f i = true → left.testBit f = false
/-- Atoms that attack each other are left. -/
def MutIn (V K : List Nat) (left : Nat) : Prop := ∀ f g, f < V.length → g < V.length → attN V K f g = true → attN V K g f = true → left.testBit f = true
theorem MutIn.clr {V K : List Nat} {left i : Nat} (h : MutIn V K left) (hi : freeT V K left i) : MutIn V K (clr left i) := fun f g hf hg h1 h2 => by
  have e := h f g hf hg h1 h2
  refine clr_bit.2 ⟨e, ?_⟩
  rintro rfl
  have := hi.2 g hg h2
  rw [h g f hg hf h2 h1] at this
  cases this
theorem MutIn.zero {V K : List Nat} (h : MutIn V K 0) : ¬ mutN V K := fun ⟨f, g, hf, hg, h1, h2⟩ => by
  have := h f g hf hg h1 h2
  rw [Nat.zero_testBit] at this
  cases this
theorem MutIn.init {V K : List Nat} : MutIn V K (2 ^ V.length - 1) := fun f g hf hg _ _ => by
  rw [Nat.testBit_two_pow_sub_one]
  exact decide_eq_true hf
/-! ## What can be reached (the reference's way) -/
structure RchI (V K : List Nat) (c : List Nat) : Prop where
  len : c.length = 5
  lt : ∀ f, c.getD f 0 < 2 ^ V.length
  has : ∀ f g, f < V.length → g < V.length → attN V K f g = true → (c.getD f 0).testBit g = true
  rise : ∀ rk : Nat → Nat, (∀ f g, f < V.length → g < V.length → attN V K f g = true → rk f < rk g) → ∀ f g, f < V.length → (c.getD f 0).testBit g = true → rk f < rk g
theorem RchI.step {V K : List Nat} {c : List Nat} {f g : Nat} (h : RchI V K c) (hf : f < V.length) (hV : V.length ≤ 5) (hg : g < V.length) (hb : (c.getD f 0).testBit g = true) : RchI V K (c.set f (c.getD f 0 ||| c.getD g 0)) := by
  have get : ∀ i, (c.set f (c.getD f 0 ||| c.getD g 0)).getD i 0 = if i = f then c.getD f 0 ||| c.getD g 0 else c.getD i 0 := fun i => by
    simp only [List.getD_eq_getElem?_getD, List.getElem?_set]
    by_cases e : f = i
    · subst e
      have := h.len
      rw [if_pos rfl, if_pos (by omega), if_pos rfl]
      simp
    · rw [if_neg e, if_neg fun e2 => e e2.symm]
  refine ⟨by rw [List.length_set]; exact h.len, fun i => ?_, fun i j hi hj ha => ?_, fun rk hrk i j hi hb2 => ?_⟩
  · rw [get]
    split
    · exact Nat.or_lt_two_pow (h.lt f) (h.lt g)
    · exact h.lt i
  · rw [get]
    split
    · rename_i e
      subst e
      rw [Nat.testBit_or, h.has i j hi hj ha, Bool.true_or]
    · exact h.has i j hi hj ha
  · rw [get] at hb2
    split at hb2
    · rename_i e
      subst e
      rw [Nat.testBit_or, Bool.or_eq_true] at hb2
      rcases hb2 with h1 | h1
      · exact h.rise rk hrk i j hi h1
      · have a := h.rise rk hrk i g hi hb
        have b := h.rise rk hrk g j hg h1
        omega
    · exact h.rise rk hrk i j hi hb2
/-- Of atoms that attack each other: those whose turn has come reach themselves. -/
def SelfB (V K : List Nat) (c : List Nat) (p : Nat → Nat → Prop) : Prop := ∀ f g, f < V.length → g < V.length → attN V K f g = true → attN V K g f = true → p f g → (c.getD f 0).testBit f = true
theorem SelfB.mono {V K c : List Nat} {p q : Nat → Nat → Prop} (h : SelfB V K c p) (hpq : ∀ f g, f < V.length → g < V.length → q f g → p f g) : SelfB V K c q := fun f g hf hg h1 h2 hq => h f g hf hg h1 h2 (hpq f g hf hg hq)
theorem SelfB.step {V K : List Nat} {c : List Nat} {f g : Nat} {p : Nat → Nat → Prop} (h : RchI V K c) (hs : SelfB V K c p) (hf : f < V.length) (hV : V.length ≤ 5) (hg : g < V.length) : SelfB V K (c.set f (c.getD f 0 ||| c.getD g 0)) fun i j => p i j ∨ (i = f ∧ j = g) := fun i j hi hj h1 h2 hp => by
  have get : ∀ i, (c.set f (c.getD f 0 ||| c.getD g 0)).getD i 0 = if i = f then c.getD f 0 ||| c.getD g 0 else c.getD i 0 := fun i => by
    simp only [List.getD_eq_getElem?_getD, List.getElem?_set]
    by_cases e : f = i
    · subst e
      have := h.len
      rw [if_pos rfl, if_pos (by omega), if_pos rfl]
      simp
    · rw [if_neg e, if_neg fun e2 => e e2.symm]
  rw [get]
  rcases hp with hp | ⟨rfl, rfl⟩
  · have := hs i j hi hj h1 h2 hp
    split
    · rename_i e
      subst e
      rw [Nat.testBit_or, this, Bool.true_or]
    · exact this
  · rw [if_pos rfl, Nat.testBit_or, h.has j i hj hi h2, Bool.or_true]
end Go.Proofs.Ytmjpnfapjcfejaa
