/- Contracts: the reference's Tree. No condition. -/
import Derived.Test.YtddpjdlhgggbkaaTi
namespace Go.Proofs.Ytddpjdlhgggbkaa
open Go Go.RowKit VC
set_option linter.unusedSimpArgs false
set_option linter.unusedVariables false

theorem isTop_congr {p : List Int} {P Q : Nat → Bool} {n i : Nat} (hr : ∀ i, i < n → -1 ≤ p.getD i 0 ∧ p.getD i 0 < n) (h : ∀ i, i < n → P i = Q i) (hi : i < n) : isTop p P i = isTop p Q i := by
  unfold isTop
  rw [h i hi]
  rcases Int.lt_or_le (p.getD i 0) 0 with h0 | h0
  · rw [decide_eq_true h0, Bool.true_or, Bool.true_or]
  · have := hr i hi
    rw [h (p.getD i 0).toNat (by omega)]
theorem topsK_congr {p : List Int} {P Q : Nat → Bool} {n : Nat} (hr : ∀ i, i < n → -1 ≤ p.getD i 0 ∧ p.getD i 0 < n) (h : ∀ i, i < n → P i = Q i) : ∀ k, k ≤ n → topsK p P k = topsK p Q k
  | 0, _ => rfl
  | k + 1, hk => by rw [topsK_succ, topsK_succ, isTop_congr hr h (by omega), topsK_congr hr h k (by omega)]
theorem topsK_le (p : List Int) (P : Nat → Bool) (k : Nat) : topsK p P k ≤ k := by
  have := List.length_filter_le (isTop p P) (List.range k)
  rwa [List.length_range] at this
theorem topsK_none (p : List Int) {P : Nat → Bool} : ∀ k, (∀ i, i < k → P i = false) → topsK p P k = 0
  | 0, _ => rfl
  | k + 1, h => by rw [topsK_succ, topsK_none p k fun i hi => h i (by omega), isTop, h k (by omega)]; rfl
theorem joined_c {w : World} {pv : Value} {p : List Int} {s n : Nat} (sp : SlI w pv p) (hn : p.length = n) (h5 : n ≤ 5) (hs : s < 9223372036854775808) (hr : ∀ i, i < n → -1 ≤ p.getD i 0 ∧ p.getD i 0 < n) :
    Calls Try.prog 37 #[pv, .int .i64 (s : Int)] w (Ret w (.bool (decide (topsK p s.testBit n = 1)))) := by
  refine f37_calls _ _ ?_
  have gi : ∀ i (hi : i < p.length), p[i] = p.getD i 0 := fun i hi => by simp [List.getD, hi]
  refine sp.ln ⟨fun tops t w' => ∃ k : Nat, t = k ∧ k ≤ n ∧ tops = ((topsK p s.testBit k : Nat) : Int) ∧ w' = w, fun _ t _ => n - t.toNat, ⟨0, rfl, by omega, rfl, rfl⟩, ?_⟩
  rw [hn]
  rintro - tops t w9 ⟨k, rfl, hk, rfl, rfl⟩
  have htk := topsK_le p s.testBit k
  refine condD (fun hlt => ?_) fun hge => ?_
  · have hkp : k < p.length := by omega
    refine sp.rd rfl hkp ?_
    rw [gi k hkp]
    have hrk := hr k (by omega)
    have yes : isTop p s.testBit k = true → inR (((topsK p s.testBit k : Nat) : Int) + 1) ∧ inR ((k : Int) + 1) ∧ ((∃ k' : Nat, (k : Int) + 1 = k' ∧ k' ≤ n ∧ ((topsK p s.testBit k : Nat) : Int) + 1 = ((topsK p s.testBit k' : Nat) : Int) ∧ w9 = w9) ∧ n - Int.toNat ((k : Int) + 1) < n - Int.toNat (k : Int)) := fun ht => ⟨by unfold inR; omega, by unfold inR; omega, ⟨k + 1, by omega, by omega, by rw [topsK_succ, if_pos ht]; omega, rfl⟩, by omega⟩
    have no : isTop p s.testBit k = false → inR ((k : Int) + 1) ∧ ((∃ k' : Nat, (k : Int) + 1 = k' ∧ k' ≤ n ∧ ((topsK p s.testBit k : Nat) : Int) = ((topsK p s.testBit k' : Nat) : Int) ∧ w9 = w9) ∧ n - Int.toNat ((k : Int) + 1) < n - Int.toNat (k : Int)) := fun ht => ⟨by unfold inR; omega, ⟨k + 1, by omega, by omega, by rw [topsK_succ, ht]; simp, rfl⟩, by omega⟩
    refine ⟨by omega, condD (fun hb => ?_) fun hb => no ?_⟩
    · have hb := (bit_oneT (by omega)).1 hb
      refine condD (fun hneg => yes ?_) fun hpos => ⟨by omega, ?_⟩
      · rw [isTop, hb, decide_eq_true hneg]
        rfl
      · obtain ⟨m, hm⟩ : ∃ m : Nat, p.getD k 0 = (m : Int) := ⟨(p.getD k 0).toNat, by omega⟩
        rw [hm]
        refine condD (fun hz => yes ?_) fun hz => no ?_
        · have hz := (bit_zero (by omega)).1 hz
          rw [isTop, hb, hm, Int.toNat_natCast, hz]
          simp
        · have hz : s.testBit m = true := by
            rw [← Bool.not_eq_false]
            exact fun h => hz ((bit_zero (by omega)).2 h)
          rw [isTop, hb, hm, Int.toNat_natCast, hz, decide_eq_false (by omega)]
          rfl
    · have hb : s.testBit k = false := by
        rw [← Bool.not_eq_true]
        exact fun h => hb ((bit_oneT (by omega)).2 h)
      rw [isTop, hb, Bool.false_and]
  · have hkn : k = n := by omega
    subst hkn
    refine ⟨?_, Grow.refl _⟩
    congr 3
    apply propext
    omega
/-- The set of the atoms in which variable x occurs. -/
def occS (b : List Atm) (x k : Nat) : Nat := (List.range k).foldl (fun acc i => if hasV b i x = true then acc ||| 2 ^ i else acc) 0
theorem occS_succ (b : List Atm) (x k : Nat) : occS b x (k + 1) = if hasV b k x = true then occS b x k ||| 2 ^ k else occS b x k := by
  unfold occS
  rw [List.range_succ, List.foldl_append]
  rfl
theorem occS_bit (b : List Atm) (x : Nat) : ∀ k i, (occS b x k).testBit i = (decide (i < k) && hasV b i x)
  | 0, i => by simp [occS]
  | k + 1, i => by
    rw [occS_succ]
    split
    · rename_i h
      rw [Nat.testBit_or, occS_bit b x k, Nat.testBit_two_pow]
      by_cases e : k = i
      · subst e
        simp [h]
      · rw [decide_eq_false e, Bool.or_false]
        congr 1
        rw [decide_eq_decide]
        omega
    · rename_i h
      rw [occS_bit b x k]
      by_cases e : i = k
      · subst e
        simp [h]
      · congr 1
        rw [decide_eq_decide]
        omega
theorem occS_lt (b : List Atm) (x k : Nat) : occS b x k < 2 ^ k := by
  refine Nat.lt_pow_two_of_testBit _ fun i hi => ?_
  rw [occS_bit, decide_eq_false (by omega), Bool.false_and]
theorem through_c {w : World} {hv bv pv : Value} {b : List Atm} {p : List Int} (sb : SlA w bv b) (sp : SlI w pv p) (ob : ∀ a ∈ b, okA a = true) (hn : p.length = b.length) (h5 : b.length ≤ 5) (hr : ∀ i, i < b.length → -1 ≤ p.getD i 0 ∧ p.getD i 0 < b.length) (hends : ∀ i, i < b.length → iterP p b.length (i : Int) = -1) :
    Calls Try.prog 38 #[.agg #[hv, bv], pv] w fun e w' => ∃ c : Bool, e = .returned (.bool c) ∧ (c = true ↔ ∀ x, x < 8 → topsK p (fun i => hasV b i x) b.length ≤ 1) ∧ Grow w w' := by
  refine f38_calls _ _ ?_
  refine ⟨_, rfl, fun w1 hw1 => ?_⟩
  have g1 := alloc_grow hw1
  have p1 := boxc hw1 1 bv rfl
  have bT : ∀ a ∈ b, ∀ x ∈ a.2, -9 ≤ x ∧ x ≤ 7 := fun a ha => (okA_iff.1 (ob a ha)).2.2.2.2
  have hP : 2 ^ b.length ≤ 2 ^ 5 := Nat.pow_le_pow_right (by omega) h5
  refine ⟨fun t w' => ∃ x : Nat, t = x ∧ x ≤ 8 ∧ (∀ y, y < x → topsK p (fun i => hasV b i y) b.length ≤ 1) ∧ Grow w1 w', fun t _ => 8 - t.toNat, ⟨0, rfl, by omega, fun y hy => by omega, Grow.refl _⟩, ?_⟩
  rintro - t w7 ⟨x, rfl, hx, hthr, g7⟩
  have g07 := g1.trans g7
  refine condD (fun hlt => ?_) fun hge => ⟨true, rfl, ⟨fun _ y hy => hthr y (by omega), fun _ => rfl⟩, g07⟩
  refine ⟨_, g7.cell p1, SlX.ln (sb.gr g07) ?_⟩
  refine ⟨fun set t w' => ∃ i : Nat, t = i ∧ i ≤ b.length ∧ set = ((occS b x i : Nat) : Int) ∧ Grow w7 w', fun _ t _ => b.length - t.toNat, ⟨0, rfl, by omega, rfl, Grow.refl _⟩, ?_⟩
  rintro - set t w17 ⟨i, rfl, hi, rfl, g17⟩
  have g017 := g07.trans g17
  have hoc := occS_lt b x i
  have hpi : 2 ^ i ≤ 2 ^ 5 := Nat.pow_le_pow_right (by omega) (by omega)
  refine condD (fun hlt2 => ?_) fun hge2 => ?_
  · have hib : i < b.length := by omega
    refine SlX.loc (sb.gr g017) rfl hib rfl fun w23 u g23 s23 hu c0 c1 => ?_
    refine ⟨[_, _], rfl, two c0 c1, (refVars_c hu (bT _ (List.getElem_mem hib))).mono ?_⟩
    rintro e w26 ⟨rfl, g26⟩
    have hbit : (iAnd .i64 (iShr .i64 ((varsL b[i].2 : Nat) : Int) (x : Int)) 1 = 1) ↔ hasV b i x = true := by
      rw [bit_oneT (by omega)]
      simp [hasV, varsOf, List.getD, hib]
    refine ⟨_, rfl, by omega, condD (fun hb => ⟨by omega, by unfold inR; omega, ⟨i + 1, by omega, by omega, ?_, (g17.trans g23).trans g26⟩, by dsimp only; omega⟩) fun hb => ⟨by unfold inR; omega, ⟨i + 1, by omega, by omega, ?_, (g17.trans g23).trans g26⟩, by dsimp only; omega⟩⟩
    · rw [iShl_one (by omega), iOr_nat (by omega) (by omega), occS_succ, if_pos (hbit.1 hb)]
    · rw [occS_succ, if_neg fun h => hb (hbit.2 h)]
  · have hib : i = b.length := by omega
    subst hib
    have etop : topsK p (occS b x b.length).testBit b.length = topsK p (fun i => hasV b i x) b.length := topsK_congr hr (fun i hi => by rw [occS_bit, decide_eq_true hi, Bool.true_and]) _ (Nat.le_refl _)
    have next : ∀ {w'}, topsK p (fun i => hasV b i x) b.length ≤ 1 → Grow w7 w' → inR ((x : Int) + 1) ∧ ((∃ x' : Nat, (x : Int) + 1 = x' ∧ x' ≤ 8 ∧ (∀ y, y < x' → topsK p (fun i => hasV b i y) b.length ≤ 1) ∧ Grow w1 w') ∧ 8 - Int.toNat ((x : Int) + 1) < 8 - Int.toNat (x : Int)) := fun h1 g => ⟨by unfold inR; omega, ⟨x + 1, by omega, by omega, fun y hy => by
      by_cases e : y = x
      · rw [e]; exact h1
      · exact hthr y (by omega), g7.trans g⟩, by omega⟩
    refine condP_i (fun hnz => (joined_c (sp.grow g017) hn h5 (by omega) hr).mono ?_) fun hz => next ?_ g17
    · rintro e w29 ⟨rfl, g29⟩
      refine ⟨_, rfl, condP_i (fun hf => ⟨false, rfl, ⟨fun h => (by cases h), fun h => ?_⟩, g017.trans g29⟩) fun ht => next ?_ (g17.trans g29)⟩
      · have h9 := h x (by omega)
        have hnz : occS b x b.length ≠ 0 := by
          intro h0
          rw [h0] at hnz
          simp at hnz
        obtain ⟨i, hi⟩ : ∃ i, (occS b x b.length).testBit i = true := Classical.byContradiction fun hno => hnz (Nat.eq_of_testBit_eq fun i => by
          rw [Nat.zero_testBit, ← Bool.not_eq_true]
          exact fun h => hno ⟨i, h⟩)
        rw [occS_bit, Bool.and_eq_true, decide_eq_true_eq] at hi
        have h8 := top_some (P := fun i => hasV b i x) hr hi.1 hi.2 (by rw [hends i hi.1]; omega)
        rw [etop] at hf
        simp at hf
        omega
      · rw [etop] at ht
        simp at ht
        omega
    · have hz : occS b x b.length = 0 := by simp at hz; omega
      rw [← etop, hz]
      rw [topsK_none p _ fun i _ => Nat.zero_testBit i]
      omega
theorem refTree_c {w : World} {hv bv pv : Value} {b : List Atm} {p : List Int} (sb : SlA w bv b) (sp : SlI w pv p) (ob : ∀ a ∈ b, okA a = true) (h5 : b.length ≤ 5) :
    Calls Try.prog 19 #[.agg #[hv, bv], pv] w fun e w' => ∃ c : Bool, e = .returned (.bool c) ∧ (c = true ↔ TreeS (hasV b) b.length p) ∧ Grow w w' := by
  refine f19_calls _ _ ?_
  refine ⟨_, rfl, fun w1 hw1 => ?_⟩
  have g1 := alloc_grow hw1
  have p0 := boxc hw1 0 hv rfl
  have p1 := boxc hw1 1 bv rfl
  refine ⟨_, p1, SlX.ln (sb.gr g1) (sp.ln ?_)⟩
  obtain ⟨n, hn⟩ : ∃ n, n = b.length := ⟨_, rfl⟩
  rw [← hn] at h5 ⊢
  have no : ∀ {w'}, Grow w w' → ¬ TreeS (hasV b) n p → ∃ c : Bool, Ending.returned (.bool false) = .returned (.bool c) ∧ (c = true ↔ TreeS (hasV b) n p) ∧ Grow w w' := fun g h => ⟨false, rfl, ⟨fun h => (by cases h), fun h' => absurd h' h⟩, g⟩
  refine condP_i (fun hl => no g1 fun hT => by have := hT.len; simp at hl; omega) fun hl => ?_
  have hl : p.length = n := by simp at hl; omega
  have gi : ∀ i (hi : i < p.length), p[i] = p.getD i 0 := fun i hi => by simp [List.getD, hi]
  refine sp.ln ⟨fun t w' => ∃ k : Nat, t = k ∧ k ≤ n ∧ (∀ i, i < k → (-1 ≤ p.getD i 0 ∧ p.getD i 0 < n) ∧ iterP p n (i : Int) = -1) ∧ w' = w1, fun t _ => n - t.toNat, ⟨0, rfl, by omega, fun i hi => by omega, rfl⟩, ?_⟩
  rw [hl]
  rintro - t w17 ⟨k, rfl, hk, hgood, rfl⟩
  refine condD (fun hlt => ?_) fun hge => ?_
  · have hkp : k < p.length := by omega
    have spg := sp.grow g1
    refine spg.rd rfl hkp ?_
    rw [gi k hkp]
    refine condD (fun h1 => no g1 fun hT => by have := hT.rng k (by omega); omega) fun h1 => condD (fun h2 => no g1 fun hT => by have := hT.rng k (by omega); omega) fun h2 => ?_
    refine ⟨fun at' t w' => ∃ j : Nat, t = j ∧ j ≤ n ∧ at' = iterP p j (k : Int) ∧ -1 ≤ at' ∧ at' < n ∧ w' = w17, fun _ t _ => n - t.toNat, ⟨0, rfl, by omega, rfl, by omega, by omega, rfl⟩, ?_⟩
    rintro - at' t w27 ⟨j, rfl, hj, hat, hlo, hhi, rfl⟩
    refine condD (fun hlt2 => ?_) fun hge2 => ?_
    · refine condD (fun h0 => ?_) fun h0 => ⟨by unfold inR; omega, ⟨j + 1, by omega, by omega, by rw [iterP_succ, ← hat, stepP, if_neg h0], hlo, hhi, rfl⟩, by dsimp only; omega⟩
      have hap : at'.toNat < p.length := by omega
      refine spg.rd (i := at'.toNat) (by omega) hap ?_
      rw [gi _ hap]
      refine condD (fun h3 => no g1 fun hT => by have := hT.rng at'.toNat (by omega); omega) fun h3 => condD (fun h4 => no g1 fun hT => by have := hT.rng at'.toNat (by omega); omega) fun h4 => ?_
      exact ⟨by unfold inR; omega, ⟨j + 1, by omega, by omega, by rw [iterP_succ, ← hat, stepP, if_pos h0], by omega, by omega, rfl⟩, by dsimp only; omega⟩
    · have hjn : j = n := by omega
      subst hjn
      refine condP_i (fun hne => no g1 fun hT => ?_) fun heq => ⟨by unfold inR; omega, ⟨k + 1, by omega, by omega, fun i hi => ?_, rfl⟩, by dsimp only; omega⟩
      · have := hT.ends k (by omega)
        simp at hne
        omega
      · by_cases e : i = k
        · subst e
          simp at heq
          exact ⟨⟨by omega, by omega⟩, by omega⟩
        · exact hgood i (by omega)
  · have hkn : k = n := by omega
    subst hkn
    have hr : ∀ i, i < k → -1 ≤ p.getD i 0 ∧ p.getD i 0 < k := fun i hi => (hgood i hi).1
    have hends : ∀ i, i < k → iterP p k (i : Int) = -1 := fun i hi => (hgood i hi).2
    have hP : 2 ^ k ≤ 2 ^ 5 := Nat.pow_le_pow_right (by omega) h5
    have hP1 : 1 ≤ 2 ^ k := Nat.one_le_two_pow
    rw [iShl_one (by omega)]
    have eL : (((2 ^ k : Nat) : Int) - 1) = ((2 ^ k - 1 : Nat) : Int) := by omega
    rw [eL]
    refine ⟨by omega, by unfold inR; omega, (joined_c (sp.grow g1) hl h5 (by omega) hr).mono ?_⟩
    rintro e w32 ⟨rfl, g32⟩
    have g032 := g1.trans g32
    have etop : topsK p (2 ^ k - 1).testBit k = topsK p (fun _ => true) k := topsK_congr hr (fun i hi => by rw [Nat.testBit_two_pow_sub_one]; exact decide_eq_true hi) _ (Nat.le_refl _)
    rw [etop]
    refine ⟨_, rfl, condD (fun hroot => ⟨[_, _], rfl, two (g32.cell p0) (g32.cell p1), (through_c (sb.gr g032) (sp.grow g032) ob (by omega) (by omega) (by rw [← hn]; exact hr) (by rw [← hn]; exact hends)).mono ?_⟩) fun hroot => no g032 fun hT => hroot hT.root⟩
    rintro e w36 ⟨c, rfl, hc, g36⟩
    rw [← hn] at hc
    exact ⟨_, rfl, c, rfl, ⟨fun h => ⟨hl, hr, hends, hroot, hc.1 h⟩, fun hT => hc.2 hT.thr⟩, g032.trans g36⟩
end Go.Proofs.Ytddpjdlhgggbkaa
