/- Cliques in a row: the search in depth; a chordal graph has at most as many greatest cliques as nodes. No program, no condition. -/
import Derived.Test.YtmpjanpmkmlloaaDoorGq
import Derived.Test.YtmpjanpmkmlloaaDoorGc
namespace Go.Proofs.YtmpjanpmkmlloaaDoor
open Go Go.RowKit VC
set_option linter.unusedSimpArgs false
set_option linter.unusedVariables false

/-- A node with its neighbours that are left. -/
def eclq (N : List Nat) (left i : Nat) : Nat := 2 ^ i ||| (nb N i &&& left)
theorem eclq_bit {N : List Nat} {left i j : Nat} : (eclq N left i).testBit j = true ↔ j = i ∨ (E N i j ∧ left.testBit j = true) := by
  unfold eclq E
  rw [Nat.testBit_or, two_bit, Bool.or_eq_true, decide_eq_true_eq, Nat.testBit_and, Bool.and_eq_true]
  constructor
  · rintro (h | h)
    · exact .inl h.symm
    · exact .inr h
  · rintro (h | h)
    · exact .inl h.symm
    · exact .inr h
def ecl (N : List Nat) : Nat → List Nat → List Nat
  | _, [] => []
  | left, i :: r => eclq N left i :: ecl N (nSub left (2 ^ i)) r
theorem ecl_len (N : List Nat) : ∀ (left : Nat) (r : List Nat), (ecl N left r).length = r.length
  | _, [] => rfl
  | left, i :: r => by simp [ecl, ecl_len N _ r]
theorem maxq_max {N : List Nat} (hN : VN N) {s K : Nat} (hs : s < 2 ^ N.length) (hq : maxq N s = true) (hK : K < 2 ^ N.length) (hKq : Clq N K) (hsub : ∀ i, s.testBit i = true → K.testBit i = true) : s = K := by
  have h12 := hN.le
  apply Nat.eq_of_testBit_eq
  intro k
  cases hb : s.testBit k with
  | true => exact (hsub k hb).symm
  | false =>
    cases hk : K.testBit k with
    | false => rfl
    | true =>
      have hkl := bit_lt hK hk
      unfold maxq at hq
      rw [Bool.and_eq_true, List.all_eq_true] at hq
      have := hq.2 k (mem_els.2 ⟨by omega, by rw [nSub_bit, al_bit, hb]; simpa using hkl⟩)
      simp only [Bool.not_eq_true', decide_eq_false_iff_not] at this
      refine absurd (sub_zero.2 fun j hj => ?_) this
      exact hKq k hk j (hsub j hj) fun e => by subst e; rw [hb] at hj; cases hj
theorem eclq_clq {N : List Nat} (hN : VN N) {left i : Nat} (hi : i < N.length) (hq : cliq N (nb N i &&& left) = true) : Clq N (eclq N left i) ∧ eclq N left i < 2 ^ N.length := by
  have h1 := (cliq_iff (Nat.lt_of_le_of_lt Nat.and_le_left (hN.nb_lt' i))).1 hq
  refine ⟨fun a ha b hb hne => ?_, Nat.or_lt_two_pow (Nat.pow_lt_pow_right (by omega) hi) (Nat.lt_of_le_of_lt Nat.and_le_left (hN.nb_lt i))⟩
  have mem : ∀ j, E N i j → left.testBit j = true → (nb N i &&& left).testBit j = true := fun j h1 h2 => by rw [Nat.testBit_and, h2]; simpa [E] using h1
  rcases eclq_bit.1 ha with ha | ha
  · rcases eclq_bit.1 hb with hb | hb
    · exact absurd (hb.trans ha.symm) hne
    · subst ha; exact hb.1
  · rcases eclq_bit.1 hb with hb | hb
    · subst hb; exact ha.1.symm hN
    · exact h1 a (mem a ha.1 ha.2) b (mem b hb.1 hb.2) hne
theorem max_ecl {N : List Nat} (hN : VN N) : ∀ (f left : Nat) (r : List Nat), left < 2 ^ N.length → ordN N f left = some r → ∀ s, s < 2 ^ N.length → s ≠ 0 → maxq N s = true → (∀ i, s.testBit i = true → left.testBit i = true) → s ∈ ecl N left r
  | f, left, r, hl, ho, s, hs, h0, hq, hsub => by
    have hne : left ≠ 0 := fun e => by
      subst e
      exact h0 (set_zero.2 fun i => by
        cases hb : s.testBit i with
        | false => rfl
        | true => have := hsub i hb; simp at this)
    match f with
    | 0 => unfold ordN at ho; rw [if_neg hne] at ho; cases ho
    | f + 1 =>
      unfold ordN at ho
      rw [if_neg hne] at ho
      cases hf : (els left).find? (fun i => cliq N (nb N i &&& left)) with
      | none => rw [hf] at ho; cases ho
      | some i =>
        rw [hf] at ho
        simp only [Option.map_eq_some_iff] at ho
        obtain ⟨r', hr', rfl⟩ := ho
        obtain ⟨⟨i1, i2, i3⟩, -⟩ := find_first hf
        have hil := bit_lt hl i1
        obtain ⟨hK, hKlt⟩ := eclq_clq hN hil i3
        cases hb : s.testBit i with
        | true =>
          have hsq : Clq N s := by
            unfold maxq at hq
            rw [Bool.and_eq_true] at hq
            exact (cliq_iff (Nat.lt_of_lt_of_le hs hN.pow)).1 hq.1
          have := maxq_max hN hs hq hKlt hK fun j hj => eclq_bit.2 (by
            by_cases e : j = i
            · exact .inl e
            · exact .inr ⟨hsq i hb j hj e, hsub j hj⟩)
          rw [this]
          exact List.mem_cons_self ..
        | false =>
          refine List.mem_cons_of_mem _ (max_ecl hN f _ r' (nSub_lt hl) hr' s hs h0 hq fun j hj => ?_)
          rw [nSub_bit, hsub j hj, two_bit]
          have : ¬ i = j := fun e => by subst e; rw [hb] at hj; cases hj
          simp [this]
theorem nodup_mcl (N : List Nat) : (mcl N).Nodup := List.Pairwise.filter _ List.nodup_range
theorem mcl_few {N : List Nat} (hN : VN N) (h : (ordG N).isSome = true) : (mcl N).length ≤ N.length := by
  obtain ⟨r, hr⟩ := Option.isSome_iff_exists.1 h
  have hlen : r.length = N.length := by
    have := el_len hN (ordG_el hN hr)
    simpa using this
  have : (mcl N).length ≤ (ecl N (al N) r).length := (nodup_mcl N).length_le_of_subset fun s hs => by
    obtain ⟨h1, h2, h3⟩ := mem_mcl.1 hs
    exact max_ecl hN 12 _ r (al_lt N) hr s h1 (by omega) h3 fun i hi => by rw [al_bit]; simpa using bit_lt h1 hi
  rw [ecl_len, hlen] at this
  exact this
/-! ## In a row -/
def rdfs (L : List Nat) : Nat → Nat → Nat → Nat → List Nat → Option (List Nat)
  | 0, _, _, _, row => some row
  | f + 1, used, seen, over, row => (List.range L.length).findSome? fun i => if !used.testBit i && decide (gn L i &&& over = 0) then rdfs L f (used ||| 2 ^ i) (seen ||| gn L i) (over ||| nSub seen (gn L i)) (row ++ [gn L i]) else none
def rdfsF (L : List Nat) (f used seen over : Nat) (row : List Nat) (i : Nat) : Option (List Nat) := if !used.testBit i && decide (gn L i &&& over = 0) then rdfs L f (used ||| 2 ^ i) (seen ||| gn L i) (over ||| nSub seen (gn L i)) (row ++ [gn L i]) else none
theorem rdfs_succ (L : List Nat) (f used seen over : Nat) (row : List Nat) : rdfs L (f + 1) used seen over row = (List.range L.length).findSome? (rdfsF L f used seen over row) := rfl
def rowOf (N : List Nat) : List Nat := (rdfs (mcl N) (mcl N).length 0 0 0 []).getD []
/-- From and To of a node in a row. -/
def frm (row : List Nat) (x : Nat) : Int := match row.findIdx? (fun c => c.testBit x) with | some i => i | none => -1
def ttoT (row : List Nat) (x : Nat) : Nat → Nat
  | 0 => 0
  | k + 1 => if (gn row k).testBit x then k else ttoT row x k
def tto (row : List Nat) (x : Nat) : Nat := ttoT row x row.length
theorem ttoT_le (row : List Nat) (x : Nat) : ∀ k, ttoT row x k ≤ k
  | 0 => Nat.le_refl 0
  | k + 1 => by
    unfold ttoT
    split
    · omega
    · have := ttoT_le row x k; omega
end Go.Proofs.YtmpjanpmkmlloaaDoor
