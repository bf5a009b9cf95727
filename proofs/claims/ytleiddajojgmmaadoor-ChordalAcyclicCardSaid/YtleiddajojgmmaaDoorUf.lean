/- The graph of the variables of a query. Of no program. No condition. -/
import Derived.Test.YtleiddajojgmmaaDoorTa
import Derived.Test.YtleiddajojgmmaaDoorVw
import Derived.Test.YtleiddajojgmmaaDoorCb
namespace Go.Proofs.YtleiddajojgmmaaDoor
open VC
set_option linter.unusedSimpArgs false
set_option linter.unusedVariables false

theorem bit_orU {r g i : Nat} : (r ||| 2 ^ g).testBit i = true ↔ r.testBit i = true ∨ i = g := by
  rw [Nat.testBit_or, Bool.or_eq_true, Nat.testBit_two_pow, decide_eq_true_eq]
  exact or_congr_right ⟨Eq.symm, Eq.symm⟩
/-! ## Sorted lists -/
theorem lt_uniq : ∀ {l l' : List Int}, l.Pairwise (· < ·) → l'.Pairwise (· < ·) → (∀ a, a ∈ l ↔ a ∈ l') → l = l'
  | [], [], _, _, _ => rfl
  | [], y :: r', _, _, h => by have := (h y).2 (List.mem_cons_self ..); simp at this
  | x :: r, [], _, _, h => by have := (h x).1 (List.mem_cons_self ..); simp at this
  | x :: r, y :: r', h1, h2, h => by
    obtain ⟨a1, a2⟩ := List.pairwise_cons.1 h1
    obtain ⟨b1, b2⟩ := List.pairwise_cons.1 h2
    have e : x = y := by
      rcases List.mem_cons.1 ((h x).1 (List.mem_cons_self ..)) with e | e
      · exact e
      · rcases List.mem_cons.1 ((h y).2 (List.mem_cons_self ..)) with e2 | e2
        · exact e2.symm
        · have := a1 y e2
          have := b1 x e
          omega
    subst e
    rw [lt_uniq a2 b2 fun a => ?_]
    constructor
    · intro ha
      rcases List.mem_cons.1 ((h a).1 (List.mem_cons_of_mem _ ha)) with e | e
      · have := a1 a ha; omega
      · exact e
    · intro ha
      rcases List.mem_cons.1 ((h a).2 (List.mem_cons_of_mem _ ha)) with e | e
      · have := b1 a ha; omega
      · exact e
theorem ddp_lt : ∀ (r : List Int) (y : Int), (y :: r).Pairwise (· ≤ ·) → (ddp y r).Pairwise (· < ·) ∧ ∀ x ∈ ddp y r, y < x
  | [], y, _ => ⟨List.Pairwise.nil, fun x hx => by simp [ddp] at hx⟩
  | x :: r, y, h => by
    obtain ⟨h1, h2⟩ := List.pairwise_cons.1 h
    obtain ⟨i1, i2⟩ := ddp_lt r x h2
    have hyx := h1 x (List.mem_cons_self ..)
    rw [ddp]
    split
    · rename_i e
      exact ⟨i1, fun z hz => by have := i2 z hz; omega⟩
    · rename_i e
      refine ⟨List.pairwise_cons.2 ⟨i2, i1⟩, fun z hz => ?_⟩
      rcases List.mem_cons.1 hz with rfl | hz
      · omega
      · have := i2 z hz; omega
theorem ddp_mem : ∀ (r : List Int) (y z : Int), z ∈ y :: ddp y r ↔ z ∈ y :: r
  | [], y, z => by simp [ddp]
  | x :: r, y, z => by
    have ih := ddp_mem r x z
    rw [ddp]
    split
    · rename_i e
      subst e
      rw [ih]
      simp
    · rw [List.mem_cons, ih]
      exact List.mem_cons.symm
theorem dd_lt {l : List Int} (h : l.Pairwise (· ≤ ·)) : (dd l).Pairwise (· < ·) := by
  cases l with
  | nil => exact List.Pairwise.nil
  | cons a r =>
    obtain ⟨h1, h2⟩ := ddp_lt r a h
    exact List.pairwise_cons.2 ⟨h2, h1⟩
theorem dd_memI {l : List Int} {z : Int} : z ∈ dd l ↔ z ∈ l := by
  cases l with
  | nil => exact Iff.rfl
  | cons a r => exact ddp_mem r a z
/-! ## The variables -/
def vsN (b : List Atm) : List Nat := (List.range 8).filter fun v => (varsB b).testBit v
def vsI (b : List Atm) : List Int := ofN (vsN b)
theorem vsN_lt (b : List Atm) : (vsN b).Pairwise (· < ·) := List.Pairwise.sublist List.filter_sublist List.pairwise_lt_range
theorem vsI_lt (b : List Atm) : (vsI b).Pairwise (· < ·) := by
  unfold vsI ofN
  rw [List.pairwise_map]
  exact (vsN_lt b).imp fun h => by omega
theorem mem_vsN {b : List Atm} {v : Nat} : v ∈ vsN b ↔ v < 8 ∧ (v : Int) ∈ b.flatMap Prod.snd := by
  unfold vsN
  rw [List.mem_filter, List.mem_range, varsB_bit]
theorem mem_vsI {b : List Atm} (hA : ∀ a ∈ b, okA a = true) {x : Int} : x ∈ vsI b ↔ 0 ≤ x ∧ x ∈ b.flatMap Prod.snd := by
  unfold vsI ofN
  rw [List.mem_map]
  constructor
  · rintro ⟨v, hv, rfl⟩
    exact ⟨by omega, (mem_vsN.1 hv).2⟩
  · rintro ⟨h0, h1⟩
    have e : ((x.toNat : Nat) : Int) = x := Int.toNat_of_nonneg h0
    refine ⟨x.toNat, mem_vsN.2 ⟨?_, by rw [e]; exact h1⟩, e⟩
    obtain ⟨a, ha, hx⟩ := List.mem_flatMap.1 h1
    have := (okA_iff.1 (hA a ha)).2.2.2.2 x hx
    omega
theorem vsI_len (b : List Atm) : (vsI b).length = (vsN b).length := ofN_len _
theorem vsN_len (b : List Atm) : (vsN b).length ≤ 8 := by
  have := List.length_filter_le (fun v => (varsB b).testBit v) (List.range 8)
  rwa [List.length_range] at this
theorem sort_vs {b : List Atm} (hA : ∀ a ∈ b, okA a = true) : (dd ((b.flatMap Prod.snd).mergeSort fun x y => decide (x ≤ y))).filter (fun x => !decide (x < 0)) = vsI b := by
  have hs := List.pairwise_mergeSort (le := fun x y : Int => decide (x ≤ y)) (fun a b c h1 h2 => by simp at h1 h2 ⊢; omega) (fun a b => by simp; omega) (b.flatMap Prod.snd)
  refine lt_uniq (List.Pairwise.sublist List.filter_sublist (dd_lt (hs.imp fun h => by simpa using h))) (vsI_lt b) fun a => ?_
  rw [List.mem_filter, dd_memI, (List.mergeSort_perm _ _).mem_iff, mem_vsI hA, and_comm]
  refine and_congr_left fun _ => ?_
  simp
theorem vs_nil {b : List Atm} (hA : ∀ a ∈ b, okA a = true) : varsB b = 0 ↔ vsI b = [] := by
  constructor
  · intro h
    refine List.eq_nil_iff_forall_not_mem.2 fun x hx => ?_
    obtain ⟨h0, h1⟩ := (mem_vsI hA).1 hx
    have := varsB_bit (b := b) (i := x.toNat)
    rw [h, Int.toNat_of_nonneg h0] at this
    have := this.2 h1
    simp at this
  · intro h
    refine Nat.eq_of_testBit_eq fun i => ?_
    rw [Nat.zero_testBit, ← Bool.not_eq_true, varsB_bit]
    intro hi
    have : (i : Int) ∈ vsI b := (mem_vsI hA).2 ⟨by omega, hi⟩
    rw [h] at this
    cases this
/-- How many variables are below. -/
def cntV (b : List Atm) (k : Nat) : Nat := ((List.range k).filter fun v => (varsB b).testBit v).length
theorem cntV_succ (b : List Atm) (k : Nat) : cntV b (k + 1) = cntV b k + (if (varsB b).testBit k then 1 else 0) := by
  unfold cntV
  rw [List.range_succ, List.filter_append, List.length_append, List.filter_cons]
  split <;> simp
theorem cntV_le (b : List Atm) (k : Nat) : cntV b k ≤ k := by
  have := List.length_filter_le (fun v => (varsB b).testBit v) (List.range k)
  rwa [List.length_range] at this
theorem cntV_mono (b : List Atm) {k l : Nat} (h : k ≤ l) : cntV b k ≤ cntV b l := by
  induction l with
  | zero => rw [Nat.le_zero.1 h]; exact Nat.le_refl _
  | succ l ih =>
    rcases Nat.eq_or_lt_of_le h with rfl | h2
    · exact Nat.le_refl _
    · have := ih (by omega)
      rw [cntV_succ]
      omega
theorem take_vs (b : List Atm) : ∀ (d k : Nat), (((List.range (k + d)).filter fun v => (varsB b).testBit v)).take (cntV b k) = (List.range k).filter fun v => (varsB b).testBit v
  | 0, k => by rw [Nat.add_zero]; exact List.take_length
  | d + 1, k => by
    rw [← Nat.add_assoc, List.range_succ, List.filter_append, List.take_append_of_le_length, take_vs b d k]
    exact cntV_mono b (by omega : k ≤ k + d)
theorem vs_at {b : List Atm} {v : Nat} (h8 : v < 8) (hv : (varsB b).testBit v = true) : ∃ h : cntV b v < (vsI b).length, (vsI b)[cntV b v] = (v : Int) := by
  have h1 := take_vs b (8 - (v + 1)) (v + 1)
  rw [show v + 1 + (8 - (v + 1)) = 8 by omega] at h1
  have h2 := cntV_succ b v
  rw [hv, if_pos rfl] at h2
  have hl : cntV b v < (vsN b).length := by
    have := cntV_mono b (by omega : v + 1 ≤ 8)
    have e : cntV b 8 = (vsN b).length := rfl
    omega
  refine ⟨by rw [vsI_len]; exact hl, ?_⟩
  have h3 : (vsN b)[cntV b v] = v := by
    have h1' : (vsN b).take (cntV b (v + 1)) = (List.range (v + 1)).filter fun v => (varsB b).testBit v := h1
    have h4 : ((vsN b).take (cntV b (v + 1)))[cntV b v]? = (vsN b)[cntV b v]? := List.getElem?_take_of_lt (by omega)
    have e : ((List.range (v + 1)).filter fun v => (varsB b).testBit v) = ((List.range v).filter fun v => (varsB b).testBit v) ++ [v] := by
      rw [List.range_succ, List.filter_append, List.filter_cons, hv]
      simp
    have e2 : (((List.range v).filter fun v => (varsB b).testBit v) ++ [v])[cntV b v]? = some v := by
      show (((List.range v).filter fun v => (varsB b).testBit v) ++ [v])[((List.range v).filter fun v => (varsB b).testBit v).length]? = some v
      exact List.getElem?_concat_length
    rw [h1', e, e2, List.getElem?_eq_getElem hl] at h4
    exact (Option.some.inj h4).symm
  unfold vsI ofN
  rw [List.getElem_map, h3]
/-! ## The graph, as it grows -/
structure GI (vs : List Int) (R : Int → Int → Prop) (G : List Nat) : Prop where
  len : G.length = vs.length
  bit : ∀ i (hi : i < vs.length) j, (G.getD i 0).testBit j = true ↔ ∃ hj : j < vs.length, vs[i] ≠ vs[j] ∧ R vs[i] vs[j]
section
variable {vs : List Int} {R R' : Int → Int → Prop} {G G' : List Nat}
theorem GI.congr (h : GI vs R G) (hr : ∀ a c, R a c ↔ R' a c) : GI vs R' G := ⟨h.len, fun i hi j => (h.bit i hi j).trans (exists_congr fun hj => and_congr_right fun _ => hr _ _)⟩
theorem GI.nil (vs : List Int) : GI vs (fun _ _ => False) (List.replicate vs.length 0) := ⟨by simp, fun i hi j => by
  have : (List.replicate vs.length 0).getD i 0 = 0 := by simp [List.getD, List.getElem?_replicate, hi]
  rw [this, Nat.zero_testBit]
  simp⟩
theorem vs_inj (hs : vs.Pairwise (· < ·)) {i j : Nat} (hi : i < vs.length) (hj : j < vs.length) (e : vs[i] = vs[j]) : i = j := by
  rcases Nat.lt_trichotomy i j with h | h | h
  · have := List.pairwise_iff_getElem.1 hs i j hi hj h; omega
  · exact h
  · have := List.pairwise_iff_getElem.1 hs j i hj hi h; omega
theorem GI.lt (h : GI vs R G) (i : Nat) : G.getD i 0 < 2 ^ vs.length := by
  by_cases hi : i < vs.length
  · refine Nat.lt_pow_two_of_testBit _ fun j hj => ?_
    rw [← Bool.not_eq_true, h.bit i hi]
    rintro ⟨h1, -⟩
    omega
  · have : G.getD i 0 = 0 := by
      rw [List.getD, List.getElem?_eq_none (by rw [h.len]; omega)]
      rfl
    rw [this]
    exact Nat.two_pow_pos _
theorem GI.step (hs : vs.Pairwise (· < ·)) (h : GI vs R G) {x y : Int} {i j : Nat} (hi : i < vs.length) (hj : j < vs.length) (ei : vs[i] = x) (ej : vs[j] = y) (hne : x ≠ y) : GI vs (fun a c => R a c ∨ (a = x ∧ c = y)) (G.set i (G.getD i 0 ||| 2 ^ j)) := by
  refine ⟨by rw [List.length_set]; exact h.len, fun k hk l => ?_⟩
  have hkG : k < G.length := by rw [h.len]; exact hk
  have hg : (G.set i (G.getD i 0 ||| 2 ^ j)).getD k 0 = if i = k then G.getD i 0 ||| 2 ^ j else G.getD k 0 := by
    simp only [List.getD, List.getElem?_set]
    split
    · rename_i e
      subst e
      simp [hkG]
    · rfl
  rw [hg]
  split
  · rename_i e
    subst e
    rw [bit_orU, h.bit i hi]
    constructor
    · rintro (⟨h1, h2, h3⟩ | rfl)
      · exact ⟨h1, h2, .inl h3⟩
      · exact ⟨hj, by rw [ei, ej]; exact hne, .inr ⟨ei, ej⟩⟩
    · rintro ⟨h1, h2, h3 | ⟨-, h3⟩⟩
      · exact .inl ⟨h1, h2, h3⟩
      · exact .inr (vs_inj hs h1 hj (h3.trans ej.symm))
  · rename_i e
    rw [h.bit k hk]
    refine exists_congr fun hl => and_congr_right fun _ => ⟨.inl, fun h3 => h3.elim id fun h4 => absurd (vs_inj hs hi hk (ei.trans h4.1.symm)) e⟩
theorem GI.skip (h : GI vs R G) (h0 : ∀ x ∈ vs, 0 ≤ x) {x y : Int} (hn : ¬ (0 ≤ x ∧ 0 ≤ y ∧ x ≠ y)) : GI vs (fun a c => R a c ∨ (a = x ∧ c = y)) G := ⟨h.len, fun i hi j => (h.bit i hi j).trans (exists_congr fun hj => and_congr_right fun hne => ⟨.inl, fun h3 => h3.elim id fun ⟨e1, e2⟩ => absurd ⟨by rw [← e1]; exact h0 _ (List.getElem_mem hi), by rw [← e2]; exact h0 _ (List.getElem_mem hj), by rw [← e1, ← e2]; exact hne⟩ hn⟩)⟩
theorem GI.uniq (h : GI vs R G) (h' : GI vs R G') : G = G' := by
  refine List.ext_getElem (h.len.trans h'.len.symm) fun i h1 h2 => ?_
  have hi : i < vs.length := by rw [← h.len]; exact h1
  have e1 : G.getD i 0 = G[i] := by simp [List.getD, h1]
  have e2 : G'.getD i 0 = G'[i] := by simp [List.getD, h2]
  rw [← e1, ← e2]
  refine Nat.eq_of_testBit_eq fun j => ?_
  rw [Bool.eq_iff_iff, h.bit i hi, h'.bit i hi]
end
/-- Two that lie in one of the first k atoms. -/
def Rk (b : List Atm) (k : Nat) (a c : Int) : Prop := ∃ x ∈ b.take k, a ∈ x.2 ∧ c ∈ x.2
theorem Rk_zero (b : List Atm) (a c : Int) : Rk b 0 a c ↔ False := by simp [Rk]
theorem Rk_succ {b : List Atm} {k : Nat} (hk : k < b.length) (a c : Int) : Rk b (k + 1) a c ↔ Rk b k a c ∨ (a ∈ b[k].2 ∧ c ∈ b[k].2) := by
  unfold Rk
  rw [List.take_succ_eq_append_getElem hk]
  constructor
  · rintro ⟨x, hx, h⟩
    rcases List.mem_append.1 hx with hx | hx
    · exact .inl ⟨x, hx, h⟩
    · rw [List.mem_singleton.1 hx] at h
      exact .inr h
  · rintro (⟨x, hx, h⟩ | h)
    · exact ⟨x, List.mem_append_left _ hx, h⟩
    · exact ⟨_, List.mem_append_right _ (List.mem_singleton.2 rfl), h⟩
def R2 (b : List Atm) (k : Nat) (xs : List Int) (p : Nat) (a c : Int) : Prop := Rk b k a c ∨ (a ∈ xs.take p ∧ c ∈ xs)
def R3 (b : List Atm) (k : Nat) (xs : List Int) (p : Nat) (x : Int) (q : Nat) (a c : Int) : Prop := R2 b k xs p a c ∨ (a = x ∧ c ∈ xs.take q)
theorem mem_take_succ {xs : List Int} {p : Nat} (hp : p < xs.length) {a : Int} : a ∈ xs.take (p + 1) ↔ a ∈ xs.take p ∨ a = xs[p] := by
  rw [List.take_succ_eq_append_getElem hp, List.mem_append, List.mem_singleton]
theorem R2_zero (b : List Atm) (k : Nat) (xs : List Int) (a c : Int) : R2 b k xs 0 a c ↔ Rk b k a c := by simp [R2]
theorem R2_full {b : List Atm} {k : Nat} (hk : k < b.length) (a c : Int) : R2 b k b[k].2 b[k].2.length a c ↔ Rk b (k + 1) a c := by
  rw [Rk_succ hk, R2, List.take_length]
theorem R3_zero (b : List Atm) (k : Nat) (xs : List Int) (p : Nat) (x a c : Int) : R3 b k xs p x 0 a c ↔ R2 b k xs p a c := by simp [R3]
theorem R3_succ (b : List Atm) (k : Nat) (xs : List Int) (p : Nat) (x : Int) {q : Nat} (hq : q < xs.length) (a c : Int) : R3 b k xs p x (q + 1) a c ↔ R3 b k xs p x q a c ∨ (a = x ∧ c = xs[q]) := by
  unfold R3
  rw [mem_take_succ hq]
  constructor
  · rintro (h | ⟨h1, h2 | h2⟩)
    · exact .inl (.inl h)
    · exact .inl (.inr ⟨h1, h2⟩)
    · exact .inr ⟨h1, h2⟩
  · rintro ((h | ⟨h1, h2⟩) | ⟨h1, h2⟩)
    · exact .inl h
    · exact .inr ⟨h1, .inl h2⟩
    · exact .inr ⟨h1, .inr h2⟩
theorem R3_full {b : List Atm} {k : Nat} (xs : List Int) {p : Nat} (hp : p < xs.length) (a c : Int) : R3 b k xs p xs[p] xs.length a c ↔ R2 b k xs (p + 1) a c := by
  unfold R3 R2
  rw [List.take_length, mem_take_succ hp]
  constructor
  · rintro ((h | ⟨h1, h2⟩) | ⟨h1, h2⟩)
    · exact .inl h
    · exact .inr ⟨.inl h1, h2⟩
    · exact .inr ⟨.inr h1, h2⟩
  · rintro (h | ⟨h1 | h1, h2⟩)
    · exact .inl (.inl h)
    · exact .inl (.inr ⟨h1, h2⟩)
    · exact .inr ⟨h1, h2⟩
/-- By the numbers of the variables. -/
def Q2 (b : List Atm) (k : Nat) (xs : List Int) (v : Nat) (a c : Int) : Prop := Rk b k a c ∨ (a ∈ xs ∧ c ∈ xs ∧ a < v)
def Q3 (b : List Atm) (k : Nat) (xs : List Int) (v u : Nat) (a c : Int) : Prop := Q2 b k xs v a c ∨ (a = v ∧ a ∈ xs ∧ c ∈ xs ∧ c < u)
theorem GI.nat {vs : List Int} {R R' : Int → Int → Prop} {G : List Nat} (h0 : ∀ x ∈ vs, 0 ≤ x ∧ x < 8) (h : GI vs R G) (hr : ∀ a c, 0 ≤ a → a < 8 → 0 ≤ c → c < 8 → (R a c ↔ R' a c)) : GI vs R' G := ⟨h.len, fun i hi j => (h.bit i hi j).trans (exists_congr fun hj => and_congr_right fun _ => by
  have h1 := h0 _ (List.getElem_mem hi)
  have h2 := h0 _ (List.getElem_mem hj)
  exact hr _ _ h1.1 h1.2 h2.1 h2.2)⟩
end Go.Proofs.YtleiddajojgmmaaDoor
