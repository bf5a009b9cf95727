/- Sets of atoms; the first of the smallest good ones. Of no program. No condition. -/
import Derived.Test.YtjkphmbjdleppaaGreatNh
namespace Go.Proofs.YtjkphmbjdleppaaGreat
open Go Go.RowKit VC
set_option linter.unusedSimpArgs false
set_option linter.unusedVariables false

def setL (n s : Nat) : List Nat := (List.range n).filter fun i => s.testBit i
def partN (b : List Atm) (l : List Nat) : List Atm := l.map fun i => b.getD i (0, [])
def intL (l : List Nat) : List Int := l.map fun (i : Nat) => (i : Int)
def Good (h : List Int) (b : List Atm) (l : List Nat) : Prop := okQ h (partN b l) = true ∧ ∃ g, IsHom h b h (partN b l) g
def SLt (l m : List Nat) : Prop := l.length < m.length ∨ l.length = m.length ∧ cmpL (intL l) (intL m) < 0
/-- What is best of the sets below S. -/
def BestO (h : List Int) (b : List Atm) (S : Nat) : Option (List Nat) → Prop
  | none => ∀ s, 1 ≤ s → s < S → ¬ Good h b (setL b.length s)
  | some l => Good h b l ∧ (∃ s, 1 ≤ s ∧ s < S ∧ l = setL b.length s) ∧ ∀ s, 1 ≤ s → s < S → Good h b (setL b.length s) → ¬ SLt (setL b.length s) l
theorem setL_succ (k s : Nat) : setL (k + 1) s = setL k s ++ (if s.testBit k = true then [k] else []) := by
  unfold setL
  rw [List.range_succ, List.filter_append]
  congr 1
  by_cases h : s.testBit k = true
  · rw [if_pos h]
    simp [List.filter, h]
  · rw [if_neg h]
    simp only [Bool.not_eq_true] at h
    simp [List.filter, h]
theorem partN_app (b : List Atm) (l m : List Nat) : partN b (l ++ m) = partN b l ++ partN b m := by simp [partN]
theorem intL_app (l m : List Nat) : intL (l ++ m) = intL l ++ intL m := by simp [intL]
theorem intL_len (l : List Nat) : (intL l).length = l.length := by simp [intL]
theorem setL_zero (n : Nat) : setL n 0 = [] := List.filter_eq_nil_iff.2 fun i _ => by simp
theorem setL_pos {n s : Nat} (h1 : 1 ≤ s) (h2 : s < 2 ^ n) : 0 < (setL n s).length := by
  rcases Nat.eq_zero_or_pos (setL n s).length with h | h
  · exfalso
    have he : setL n s = [] := List.length_eq_zero_iff.1 h
    have : s = 0 := Nat.eq_of_testBit_eq fun i => by
      rw [Nat.zero_testBit]
      rcases Nat.lt_or_ge i n with hi | hi
      · cases hb : s.testBit i with
        | false => rfl
        | true =>
          have : i ∈ setL n s := List.mem_filter.2 ⟨List.mem_range.2 hi, hb⟩
          rw [he] at this
          cases this
      · exact Nat.testBit_lt_two_pow (Nat.lt_of_lt_of_le h2 (Nat.pow_le_pow_right (by omega) hi))
    omega
  · exact h
theorem SLt.irr (l : List Nat) : ¬ SLt l l := by
  rintro (h | ⟨-, h⟩)
  · omega
  · rw [cmpL_self] at h
    omega
theorem SLt.trans {l m k : List Nat} (h1 : SLt l m) (h2 : SLt m k) : SLt l k := by
  rcases h1 with h1 | ⟨h1, h3⟩ <;> rcases h2 with h2 | ⟨h2, h4⟩
  · exact .inl (by omega)
  · exact .inl (by omega)
  · exact .inl (by omega)
  · exact .inr ⟨by omega, cmpL_lt_trans h3 h4⟩
theorem intL_inj {l m : List Nat} (h : intL l = intL m) : l = m := by
  have : (intL l).map Int.toNat = (intL m).map Int.toNat := by rw [h]
  unfold intL at this
  simpa [List.map_map, Function.comp_def] using this
theorem SLt.total {l m : List Nat} (h1 : ¬ SLt l m) (h2 : ¬ SLt m l) : l = m := by
  unfold SLt at h1 h2
  have hl : l.length = m.length := by omega
  have := cmpL_swap (intL l) (intL m)
  have h3 : ¬ cmpL (intL l) (intL m) < 0 := fun h => h1 (.inr ⟨hl, h⟩)
  have h4 : ¬ cmpL (intL m) (intL l) < 0 := fun h => h2 (.inr ⟨hl.symm, h⟩)
  exact intL_inj (cmpL_zero.1 (by omega))
section
variable {h : List Int} {b : List Atm} {s : Nat} {o : Option (List Nat)}
theorem best_new (hs : 1 ≤ s) (hB : BestO h b s o) (hbet : o = none ∨ ∃ m, o = some m ∧ SLt (setL b.length s) m) (hg : Good h b (setL b.length s)) : BestO h b (s + 1) (some (setL b.length s)) := by
  refine ⟨hg, ⟨s, hs, by omega, rfl⟩, fun s' h1 h2 hg' hlt => ?_⟩
  rcases Nat.lt_or_ge s' s with h3 | h3
  · rcases hbet with rfl | ⟨m, rfl, hm⟩
    · exact hB s' h1 h3 hg'
    · exact hB.2.2 s' h1 h3 hg' (hlt.trans hm)
  · have : s' = s := by omega
    subst this
    exact SLt.irr _ hlt
theorem best_keep (hB : BestO h b s o) (hk : ¬ Good h b (setL b.length s) ∨ ∃ m, o = some m ∧ ¬ SLt (setL b.length s) m) : BestO h b (s + 1) o := by
  cases o with
  | none =>
    intro s' h1 h2
    rcases Nat.lt_or_ge s' s with h3 | h3
    · exact hB s' h1 h3
    · have : s' = s := by omega
      subst this
      rcases hk with hk | ⟨m, hm, -⟩
      · exact hk
      · cases hm
  | some l =>
    refine ⟨hB.1, ?_, fun s' h1 h2 hg' => ?_⟩
    · obtain ⟨s', h1, h2, h3⟩ := hB.2.1
      exact ⟨s', h1, by omega, h3⟩
    rcases Nat.lt_or_ge s' s with h3 | h3
    · exact hB.2.2 s' h1 h3 hg'
    · have : s' = s := by omega
      subst this
      rcases hk with hk | ⟨m, hm, hk⟩
      · exact absurd hg' hk
      · obtain rfl : l = m := by simpa using hm
        exact hk
end
/-! ## All sets -/
theorem sub_set : ∀ {n : Nat} {l : List Nat}, l.Sublist (List.range n) → ∃ s, s < 2 ^ n ∧ l = setL n s
  | 0, l, h => ⟨0, by simp, by
    have : l = [] := by simpa using h
    rw [this]; rfl⟩
  | n + 1, l, h => by
    rw [List.range_succ, List.sublist_append_iff] at h
    obtain ⟨l1, l2, rfl, h1, h2⟩ := h
    obtain ⟨s, hs, rfl⟩ := sub_set h1
    have hnb : s.testBit n = false := Nat.testBit_lt_two_pow hs
    have h2' : l2 = [] ∨ l2 = [n] := by
      cases h2 with
      | cons _ h => exact .inl (by simpa using h)
      | cons_cons _ h => exact .inr (by simp at h; rw [h])
    rcases h2' with rfl | rfl
    · exact ⟨s, by rw [Nat.pow_succ]; omega, by rw [setL_succ, hnb]; simp⟩
    · refine ⟨s ||| 2 ^ n, ?_, ?_⟩
      · exact Nat.or_lt_two_pow (by rw [Nat.pow_succ]; omega) (Nat.pow_lt_pow_right (by omega) (by omega))
      · have e1 : setL n (s ||| 2 ^ n) = setL n s := List.filter_congr fun i hi => by
          have := List.mem_range.1 hi
          rw [Nat.testBit_or, Nat.testBit_two_pow]
          simp
          omega
        rw [setL_succ, e1, if_pos (by rw [Nat.testBit_or, Nat.testBit_two_pow]; simp)]
theorem setL_sub (n s : Nat) : (setL n s).Sublist (List.range n) := List.filter_sublist
theorem partN_all (b : List Atm) : partN b (List.range b.length) = b := by
  unfold partN
  refine List.ext_getElem (by simp) fun i h1 h2 => ?_
  simp [List.getD, h2]
theorem partN_mem {b : List Atm} {l : List Nat} (hl : ∀ i ∈ l, i < b.length) : ∀ a ∈ partN b l, a ∈ b := fun a ha => by
  obtain ⟨i, hi, rfl⟩ := List.mem_map.1 ha
  have := hl i hi
  simp only [List.getD, List.getElem?_eq_getElem this, Option.getD_some]
  exact List.getElem_mem this
/-- There is a core. -/
theorem core_some {h : List Int} {b : List Atm} (ok : okQ h b = true) {o : Option (List Nat)} (hB : BestO h b (2 ^ b.length) o) : ∃ l, o = some l := by
  cases o with
  | some l => exact ⟨l, rfl⟩
  | none =>
    exfalso
    obtain ⟨s, hs, he⟩ := sub_set (List.Sublist.refl (List.range b.length))
    have hl := okQ_len ok
    have hg : Good h b (setL b.length s) := by
      rw [← he]
      unfold Good
      rw [partN_all]
      exact ⟨ok, _, hom_id ok fun a ha => ha⟩
    refine hB s ?_ hs hg
    rcases Nat.eq_zero_or_pos s with h0 | h0
    · subst h0
      have : (List.range b.length).length = (setL b.length 0).length := by rw [← he]
      rw [setL_zero, List.length_range, List.length_nil] at this
      omega
    · exact h0
/-- What is best is no greater than any good set. -/
theorem core_le {h : List Int} {b : List Atm} {c : List Nat} (hB : BestO h b (2 ^ b.length) (some c)) {l : List Nat} (hs : l.Sublist (List.range b.length)) (hg : Good h b l) : ¬ SLt l c := by
  obtain ⟨s, h1, rfl⟩ := sub_set hs
  have hl := okQ_len hg.1
  refine hB.2.2 s ?_ h1 hg
  rcases Nat.eq_zero_or_pos s with h0 | h0
  · subst h0
    rw [setL_zero] at hl
    simp [partN] at hl
  · exact h0
end Go.Proofs.YtjkphmbjdleppaaGreat
