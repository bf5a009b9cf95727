/- Elimination orders, the plain laws: what is left shrinks; checking a permutation and checking as one goes agree. No program, no condition. -/
import Derived.Test.YtmpjanpmkmlloaaDoorGr
namespace Go.Proofs.YtmpjanpmkmlloaaDoor
open Go Go.RowKit VC
set_option linter.unusedSimpArgs false
set_option linter.unusedVariables false

theorem pc_le (s : Nat) : pc s ≤ 12 := by unfold pc els; exact Nat.le_trans (List.length_filter_le _ _) (by simp)
theorem nodup_els (s : Nat) : (els s).Nodup := List.Pairwise.filter _ List.nodup_range
theorem els_sub {s i : Nat} (h : s.testBit i = true) (hi : i < 12) : (els s).length = (els (nSub s (2 ^ i))).length + 1 := by
  have hp : (els s).Perm (i :: els (nSub s (2 ^ i))) := by
    refine (List.perm_ext_iff_of_nodup (nodup_els s) ?_).2 fun j => ?_
    · refine List.nodup_cons.2 ⟨fun hm => ?_, nodup_els _⟩
      have := (mem_els.1 hm).2
      rw [nSub_bit, two_bit] at this
      simp at this
    · rw [List.mem_cons, mem_els, mem_els, nSub_bit, two_bit]
      by_cases e : j = i
      · subst e; simp [h, hi]
      · have : ¬ i = j := fun x => e x.symm
        simp [e, this]
  rw [hp.length_eq]; rfl
theorem pc_sub {s i : Nat} (h : s.testBit i = true) (hi : i < 12) : pc s = pc (nSub s (2 ^ i)) + 1 := els_sub h hi
theorem pc_zero {s : Nat} (h : s < 4096) : pc s = 0 ↔ s = 0 := by
  constructor
  · intro hp
    have : els s = [] := List.length_eq_zero_iff.1 hp
    apply set_zero.2
    intro i
    cases hb : s.testBit i with
    | false => rfl
    | true =>
      have : i ∈ els s := mem_els.2 ⟨bit_lt (n := 12) h hb, hb⟩
      simp_all
  · rintro rfl; rfl
theorem pc_mono {s t : Nat} (h : ∀ i, i < 12 → s.testBit i = true → t.testBit i = true) : pc s ≤ pc t := by
  unfold pc
  refine (nodup_els s).length_le_of_subset fun i hi => ?_
  obtain ⟨h1, h2⟩ := mem_els.1 hi
  exact mem_els.2 ⟨h1, h i h1 h2⟩
theorem pc_lt {s t : Nat} (h : ∀ i, i < 12 → s.testBit i = true → t.testBit i = true) {k : Nat} (hk : k < 12) (hs : s.testBit k = false) (ht : t.testBit k = true) : pc s < pc t := by
  have h1 := pc_sub ht hk
  have h2 : pc s ≤ pc (nSub t (2 ^ k)) := pc_mono fun i hi hb => by
    rw [nSub_bit, two_bit, h i hi hb]
    by_cases e : k = i
    · subst e; rw [hs] at hb; cases hb
    · simp [e]
  omega
theorem pc_grow {s t : Nat} (ht : t < 4096) (h : ∀ i, s.testBit i = true → t.testBit i = true) (hne : t ≠ s) : pc s < pc t := by
  have : ∃ k, t.testBit k = true ∧ s.testBit k = false := Classical.byContradiction fun hn => hne (Nat.eq_of_testBit_eq fun i => by
    cases hs : s.testBit i with
    | true => exact h i hs
    | false =>
      cases ht' : t.testBit i with
      | false => rfl
      | true => exact absurd ⟨i, ht', hs⟩ hn)
  obtain ⟨k, h1, h2⟩ := this
  exact pc_lt (fun i _ hi => h i hi) (bit_lt (n := 12) ht h1) h2 h1
/-- Checking as one goes. -/
def elN (N : List Nat) : Nat → List Int → Bool
  | left, [] => left == 0
  | left, x :: r => decide (0 ≤ x) && decide (x < N.length) && left.testBit x.toNat && cliq N (nb N x.toNat &&& nSub left (2 ^ x.toNat)) && elN N (nSub left (2 ^ x.toNat)) r
/-- The cliques alone. -/
def chkN (N : List Nat) : Nat → List Int → Bool
  | _, [] => true
  | left, x :: r => cliq N (nb N x.toNat &&& nSub left (2 ^ x.toNat)) && chkN N (nSub left (2 ^ x.toNat)) r
def orAll : List Int → Nat
  | [] => 0
  | x :: r => 2 ^ x.toNat ||| orAll r
def inRange (N : List Nat) (l : List Int) : Bool := l.all fun x => decide (0 ≤ x) && decide (x < N.length)
/-- All nodes, each once, as the code asks it. -/
def permN (N : List Nat) (l : List Int) : Bool := inRange N l && decide (l.length = N.length) && orAll l == al N
theorem orAll_bit {l : List Int} {i : Nat} : (orAll l).testBit i = true ↔ ∃ x ∈ l, x.toNat = i := by
  induction l with
  | nil => simp [orAll]
  | cons x r ih => simp [orAll, ih, two_bit]
theorem pc_orAll (l : List Int) (h : ∀ x ∈ l, x.toNat < 12) : pc (orAll l) ≤ l.length := by
  unfold pc
  have : (els (orAll l)).length ≤ (l.map Int.toNat).length := by
    refine (nodup_els _).length_le_of_subset fun i hi => ?_
    obtain ⟨x, hx, rfl⟩ := orAll_bit.1 (mem_els.1 hi).2
    exact List.mem_map.2 ⟨x, hx, rfl⟩
  simpa using this
theorem el_perm {N : List Nat} (hN : VN N) : ∀ (l : List Int) (left : Nat), left < 2 ^ N.length → inRange N l = true → l.length = pc left → orAll l = left → elN N left l = chkN N left l
  | [], left, hl, _, hp, ho => by
    have : left = 0 := ho.symm
    subst this; rfl
  | x :: r, left, hl, hr, hp, ho => by
    simp only [inRange, List.all_cons, Bool.and_eq_true, decide_eq_true_eq] at hr
    obtain ⟨⟨h0, h1⟩, hr⟩ := hr
    have hN12 := hN.le
    have hx : x.toNat < 12 := by omega
    have hb : left.testBit x.toNat = true := by rw [← ho]; exact orAll_bit.2 ⟨x, List.mem_cons_self .., rfl⟩
    have hps := pc_sub hb hx
    have hr12 : ∀ y ∈ r, y.toNat < 12 := fun y hy => by
      have := List.all_eq_true.1 hr y hy
      simp at this; omega
    simp only [List.length_cons] at hp
    have hor : orAll r = nSub left (2 ^ x.toNat) := by
      apply Nat.eq_of_testBit_eq
      intro i
      rw [nSub_bit, two_bit, ← ho]
      simp only [orAll, Nat.testBit_or, two_bit]
      by_cases e : x.toNat = i
      · subst e
        simp
        cases hc : (orAll r).testBit x.toNat with
        | false => rfl
        | true =>
          -- then r has as many elements as left: too many
          have : pc left ≤ pc (orAll r) := pc_mono fun j hj hbj => by
            rw [← ho] at hbj
            simp only [orAll, Nat.testBit_or, two_bit, Bool.or_eq_true, decide_eq_true_eq] at hbj
            rcases hbj with rfl | h
            · exact hc
            · exact h
          have := pc_orAll r hr12
          omega
      · simp [e]
    have ih := el_perm hN r (nSub left (2 ^ x.toNat)) (nSub_lt hl) hr (by omega) hor
    simp only [elN, chkN, h0, h1, hb, decide_true, Bool.true_and, ih]
theorem el_true {N : List Nat} (hN : VN N) : ∀ (l : List Int) (left : Nat), left < 2 ^ N.length → elN N left l = true → inRange N l = true ∧ l.length = pc left ∧ orAll l = left
  | [], left, hl, h => by
    have : left = 0 := by simpa [elN] using h
    subst this
    exact ⟨rfl, rfl, rfl⟩
  | x :: r, left, hl, h => by
    simp only [elN, Bool.and_eq_true, decide_eq_true_eq] at h
    obtain ⟨⟨⟨⟨h0, h1⟩, hb⟩, hc⟩, he⟩ := h
    have hN12 := hN.le
    obtain ⟨a, b, c⟩ := el_true hN r _ (nSub_lt hl) he
    refine ⟨?_, ?_, ?_⟩
    · simp only [inRange, List.all_cons, Bool.and_eq_true, decide_eq_true_eq]
      exact ⟨⟨h0, h1⟩, a⟩
    · rw [List.length_cons, b, pc_sub hb (by omega)]
    · apply Nat.eq_of_testBit_eq
      intro i
      simp only [orAll, c, Nat.testBit_or, nSub_bit, two_bit]
      by_cases e : x.toNat = i
      · subst e; simp [hb]
      · simp [e]
theorem pc_al {N : List Nat} (hN : VN N) : pc (al N) = N.length := by
  have h := hN.le
  have : els (al N) = List.range N.length := by
    unfold els
    have : List.range 12 = List.range N.length ++ (List.range' N.length (12 - N.length)) := by
      rw [List.range_eq_range', List.range_eq_range']
      have := List.range'_append (s := 0) (m := N.length) (n := 12 - N.length) (step := 1)
      simp at this
      rw [this]; congr 1; omega
    rw [this, List.filter_append]
    have h1 : (List.range N.length).filter (al N).testBit = List.range N.length := List.filter_eq_self.2 fun i hi => by
      rw [al_bit]; simpa using hi
    have h2 : (List.range' N.length (12 - N.length)).filter (al N).testBit = [] := List.filter_eq_nil_iff.2 fun i hi => by
      rw [al_bit]; simp at hi ⊢; omega
    rw [h1, h2, List.append_nil]
  unfold pc
  rw [this, List.length_range]
/-- What CheckOrder asks of the beginning of a list is what the reference asks of the whole. -/
theorem check_eq {N : List Nat} (hN : VN N) (l : List Int) : (permN N (l.take 14) && chkN N (al N) (l.take 14)) = elN N (al N) l := by
  have hl := al_lt N
  have h12 := hN.le
  cases he : elN N (al N) l with
  | true =>
    obtain ⟨a, b, c⟩ := el_true hN l _ hl he
    rw [pc_al hN] at b
    have ht : l.take 14 = l := List.take_of_length_le (by omega)
    rw [ht]
    have := el_perm hN l _ hl a (by rw [pc_al hN]; exact b) c
    rw [← this, he]
    simp [permN, a, b, c]
  | false =>
    cases hp : permN N (l.take 14) with
    | false => rfl
    | true =>
      simp only [permN, Bool.and_eq_true, decide_eq_true_eq, beq_iff_eq] at hp
      obtain ⟨⟨a, b⟩, c⟩ := hp
      have ht : l.take 14 = l := by
        rw [List.length_take] at b
        exact List.take_of_length_le (by omega)
      rw [ht] at a b c ⊢
      have := el_perm hN l _ hl a (by rw [pc_al hN]; exact b) c
      rw [← this, he]; rfl
/-- The greedy order: enough rounds. -/
theorem ordN_isSome {N : List Nat} : ∀ (f left : Nat) (l : List Nat), ordN N f left = some l → ∀ i ∈ l, i < 12
  | 0, left, l, h => by unfold ordN at h; split at h <;> simp_all
  | f + 1, left, l, h => by
    unfold ordN at h
    split at h
    · simp at h; subst h; simp
    · split at h
      · cases h
      · rename_i i hi
        simp only [Option.map_eq_some_iff] at h
        obtain ⟨r, hr, rfl⟩ := h
        have := List.mem_of_find?_eq_some hi
        intro j hj
        rcases List.mem_cons.1 hj with rfl | hj
        · exact (mem_els.1 this).1
        · exact ordN_isSome f _ r hr j hj
end Go.Proofs.YtmpjanpmkmlloaaDoor
