/- There is one repair exactly if no two facts have the same key: as dependencies that hold in the tables of the relations. Of no program. No condition. -/
import Derived.Test.YtleiddajojgmmaaVz
namespace Go.Proofs.Ytleiddajojgmmaa
open VC
set_option linter.unusedSimpArgs false
set_option linter.unusedVariables false

/-- No two facts with one key. -/
def Clean (kl : Int → Nat) (L : List Atm) : Prop := ∀ f ∈ L, ∀ g ∈ L, kF kl f = kF kl g → f = g
theorem one_clean {kl : Int → Nat} {L : List Atm} (hn : L.Nodup) : (allR kl L).length = 1 ↔ Clean kl L := by
  have hnd : (allR kl L).Nodup := by
    have := inc_allR (kl := kl) (L := L)
    exact this.imp fun h e => by omega
  constructor
  · intro h1 f hf g hg e
    refine Classical.byContradiction fun hne => ?_
    obtain ⟨r, hr⟩ := rep_ex kl L
    obtain ⟨m1, hm1, e1⟩ := mask_of hn (hr.put hf)
    obtain ⟨m2, hm2, e2⟩ := mask_of hn (hr.put hg)
    obtain ⟨a, ha⟩ := len_one.1 h1
    rw [ha] at hm1 hm2
    have h3 : m1 = m2 := (List.mem_singleton.1 hm1).trans (List.mem_singleton.1 hm2).symm
    subst h3
    have h4 : putB kl r g f := (e2 f).1 ((e1 f).2 (.inr rfl))
    rcases h4 with h4 | h4
    · exact h4.2 e
    · exact hne h4
  · intro hc
    have full : ∀ m ∈ allR kl L, ∀ i, i < L.length → m.testBit i = true := fun m hm i hi => by
      obtain ⟨j, hj, hb, he, -⟩ := repB_iff.1 (mem_allR.1 hm).2 i hi
      have := fa_inj hn hi hj (hc _ (fa_mem hi) _ (fa_mem hj) he)
      rwa [this]
    have uniq : ∀ m ∈ allR kl L, ∀ m' ∈ allR kl L, m = m' := fun m hm m' hm' => Nat.eq_of_testBit_eq fun i => by
      rcases Nat.lt_or_ge i L.length with hi | hi
      · rw [full m hm i hi, full m' hm' i hi]
      · rw [Nat.testBit_lt_two_pow (Nat.lt_of_lt_of_le (mem_allR.1 hm).1 (Nat.pow_le_pow_right (by omega) hi)), Nat.testBit_lt_two_pow (Nat.lt_of_lt_of_le (mem_allR.1 hm').1 (Nat.pow_le_pow_right (by omega) hi))]
    have hne := allR_ne (kl := kl) hn
    cases hl : allR kl L with
    | nil => exact absurd hl hne
    | cons a r =>
      cases r with
      | nil => rfl
      | cons b r =>
        exfalso
        rw [hl] at hnd uniq
        have := uniq a (List.mem_cons_self ..) b (by simp)
        subst this
        simp at hnd
/-! ## Tables -/
/-- The attributes in which two rows are equal. -/
def agrN (xs ys : List Int) (k : Nat) : Nat := (List.range k).foldl (fun s i => if xs.getD i 0 = ys.getD i 0 then s ||| 2 ^ i else s) 0
theorem agrN_succ (xs ys : List Int) (k : Nat) : agrN xs ys (k + 1) = if xs.getD k 0 = ys.getD k 0 then agrN xs ys k ||| 2 ^ k else agrN xs ys k := by
  unfold agrN
  rw [List.range_succ, List.foldl_append]
  rfl
theorem agrN_bit {xs ys : List Int} {x : Nat} : ∀ k, (agrN xs ys k).testBit x = true ↔ x < k ∧ xs.getD x 0 = ys.getD x 0
  | 0 => by simp [agrN]
  | k + 1 => by
    rw [agrN_succ]
    have ih := agrN_bit (xs := xs) (ys := ys) (x := x) k
    by_cases h : xs.getD k 0 = ys.getD k 0
    · rw [if_pos h, bit_or_pow, ih]
      constructor
      · rintro (h1 | rfl)
        · exact ⟨by omega, h1.2⟩
        · exact ⟨by omega, h⟩
      · rintro ⟨h1, h2⟩
        by_cases e : x = k
        · exact .inr e
        · exact .inl ⟨by omega, h2⟩
    · rw [if_neg h, ih]
      constructor
      · rintro ⟨h1, h2⟩
        exact ⟨by omega, h2⟩
      · rintro ⟨h1, h2⟩
        by_cases e : x = k
        · subst e
          exact absurd h2 h
        · exact ⟨by omega, h2⟩
theorem agrN_lt (xs ys : List Int) (k : Nat) : agrN xs ys k < 2 ^ k := Nat.lt_pow_two_of_testBit _ fun x hx => by
  rw [← Bool.not_eq_true, agrN_bit]
  exact fun h => by omega
/-- Two rows speak against a dependency. -/
def badN (F T : Nat) (k : Nat) (xs ys : List Int) : Bool := decide (nSub F (agrN xs ys k) = 0) && !decide (nSub T (agrN xs ys k) = 0)
/-- A dependency holds in rows. -/
def holdN (F T k : Nat) (R : List (List Int)) : Bool := (List.range R.length).all fun i => (List.range i).all fun j => !badN F T k (R.getD i []) (R.getD j [])
theorem mask_sub {xs ys : List Int} {k m : Nat} (hm : m ≤ k) (hx : xs.length = k) (hy : ys.length = k) : nSub (2 ^ m - 1) (agrN xs ys k) = 0 ↔ xs.take m = ys.take m := by
  rw [nSub_zero]
  unfold bs
  simp only [Nat.testBit_two_pow_sub_one, decide_eq_true_eq, agrN_bit]
  constructor
  · intro h
    refine List.ext_getElem (by simp; omega) fun i h1 h2 => ?_
    have hi : i < m := by simp at h1; omega
    have h3 := (h i hi).2
    have h4 : i < xs.length := by omega
    have h5 : i < ys.length := by omega
    simp only [List.getD, List.getElem?_eq_getElem h4, List.getElem?_eq_getElem h5, Option.getD_some] at h3
    simpa using h3
  · intro h x hxm
    refine ⟨by omega, ?_⟩
    have h4 : x < xs.length := by omega
    have h5 : x < ys.length := by omega
    have h6 : (xs.take m)[x]? = (ys.take m)[x]? := by rw [h]
    rw [List.getElem?_take_of_lt hxm, List.getElem?_take_of_lt hxm] at h6
    simp only [List.getD, h6]
theorem bad_iff {xs ys : List Int} {k m : Nat} (hm : m ≤ k) (hx : xs.length = k) (hy : ys.length = k) : badN (2 ^ m - 1) (2 ^ k - 1) k xs ys = true ↔ xs.take m = ys.take m ∧ xs ≠ ys := by
  have ex : xs.take k = xs := List.take_of_length_le (by omega)
  have ey : ys.take k = ys := List.take_of_length_le (by omega)
  have h2 := mask_sub (Nat.le_refl k) hx hy
  rw [ex, ey] at h2
  unfold badN
  rw [Bool.and_eq_true, decide_eq_true_eq, Bool.not_eq_true', decide_eq_false_iff_not, mask_sub hm hx hy, h2]
theorem hold_iff {R : List (List Int)} {k m : Nat} (hm : m ≤ k) (hR : ∀ r ∈ R, r.length = k) : holdN (2 ^ m - 1) (2 ^ k - 1) k R = true ↔ ∀ r ∈ R, ∀ r' ∈ R, r.take m = r'.take m → r = r' := by
  have get : ∀ {i}, i < R.length → R.getD i [] ∈ R ∧ (R.getD i []).length = k := fun {i} hi => by
    have e : R.getD i [] = R[i] := by simp [List.getD, hi]
    rw [e]
    exact ⟨List.getElem_mem hi, hR _ (List.getElem_mem hi)⟩
  unfold holdN
  simp only [List.all_eq_true, List.mem_range, Bool.not_eq_true']
  constructor
  · intro h r hr r' hr' e
    refine Classical.byContradiction fun hne => ?_
    obtain ⟨i, hi, rfl⟩ := List.getElem_of_mem hr
    obtain ⟨j, hj, rfl⟩ := List.getElem_of_mem hr'
    have ei : R.getD i [] = R[i] := by simp [List.getD, hi]
    have ej : R.getD j [] = R[j] := by simp [List.getD, hj]
    rcases Nat.lt_trichotomy i j with hlt | rfl | hgt
    · have := h j hj i hlt
      rw [ei, ej, ← Bool.not_eq_true, bad_iff hm (hR _ hr') (hR _ hr)] at this
      exact this ⟨e.symm, fun h => hne h.symm⟩
    · exact hne rfl
    · have := h i hi j hgt
      rw [ei, ej, ← Bool.not_eq_true, bad_iff hm (hR _ hr) (hR _ hr')] at this
      exact this ⟨e, hne⟩
  · intro h i hi j hj
    have gi := get hi
    have gj := get (by omega : j < R.length)
    rw [← Bool.not_eq_true, bad_iff hm gi.2 gj.2]
    rintro ⟨h1, h2⟩
    exact h2 (h _ gi.1 _ gj.1 h1)
/-! ## The tables of the relations -/
def rowsR (L : List Atm) (r : Int) : List (List Int) := (L.filter fun f => decide (f.1 = r)).map Prod.snd
theorem mem_rowsR {L : List Atm} {r : Int} {x : List Int} : x ∈ rowsR L r ↔ (r, x) ∈ L := by
  unfold rowsR
  rw [List.mem_map]
  constructor
  · rintro ⟨f, hf, rfl⟩
    obtain ⟨h1, h2⟩ := List.mem_filter.1 hf
    have : f.1 = r := of_decide_eq_true h2
    subst this
    exact h1
  · intro h
    exact ⟨_, List.mem_filter.2 ⟨h, decide_eq_true rfl⟩, rfl⟩
theorem rowsR_snoc {L : List Atm} {k : Nat} (hk : k < L.length) (r : Int) : rowsR (L.take (k + 1)) r = if L[k].1 = r then rowsR (L.take k) r ++ [L[k].2] else rowsR (L.take k) r := by
  unfold rowsR
  rw [List.take_succ_eq_append_getElem hk, List.filter_append, List.map_append]
  by_cases h : L[k].1 = r
  · rw [if_pos h]
    simp [h]
  · rw [if_neg h]
    simp [h]
/-- The dependency of a relation's key. -/
def relB (kl : Int → Nat) (L : List Atm) (r : Int) : Bool := match rowsR L r with
  | [] => true
  | x :: R => holdN (2 ^ (min (kl r) x.length) - 1) (2 ^ x.length - 1) x.length (x :: R)
theorem rel_iff {kl : Int → Nat} {L : List Atm} (hlen : ∀ f ∈ L, ∀ g ∈ L, f.1 = g.1 → f.2.length = g.2.length) (r : Int) : relB kl L r = true ↔ ∀ f ∈ L, ∀ g ∈ L, f.1 = r → kF kl f = kF kl g → f = g := by
  have key : (∀ f ∈ L, ∀ g ∈ L, f.1 = r → kF kl f = kF kl g → f = g) ↔ ∀ x ∈ rowsR L r, ∀ y ∈ rowsR L r, x.take (kl r) = y.take (kl r) → x = y := by
    constructor
    · intro h x hx y hy e
      have := h _ (mem_rowsR.1 hx) _ (mem_rowsR.1 hy) rfl (by unfold kF; dsimp only; rw [e])
      exact (Prod.mk.inj this).2
    · rintro h ⟨fr, fx⟩ hf ⟨gr, gx⟩ hg rfl e
      obtain ⟨e1, e2⟩ := Prod.mk.inj e
      dsimp only at e1 e2 hf hg
      subst e1
      rw [h fx (mem_rowsR.2 hf) gx (mem_rowsR.2 hg) e2]
  rw [key]
  unfold relB
  cases hR : rowsR L r with
  | nil => simp
  | cons x R =>
    dsimp only
    have hx : x ∈ rowsR L r := by rw [hR]; exact List.mem_cons_self ..
    have hl : ∀ y ∈ x :: R, y.length = x.length := fun y hy => by
      rw [← hR] at hy
      exact hlen _ (mem_rowsR.1 hy) _ (mem_rowsR.1 hx) rfl
    rw [hold_iff (Nat.min_le_right _ _) hl]
    refine forall_congr' fun y => forall_congr' fun hy => forall_congr' fun z => forall_congr' fun hz => ?_
    have tk : ∀ y : List Int, y.length = x.length → y.take (min (kl r) x.length) = y.take (kl r) := fun y hy => by
      rw [Nat.min_def]
      split
      · rfl
      · rw [List.take_of_length_le (by omega), List.take_of_length_le (by omega)]
    rw [tk y (hl y hy), tk z (hl z hz)]
def cleanB (kl : Int → Nat) (L : List Atm) (n : Nat) : Bool := (List.range n).all fun r => relB kl L (r : Int)
theorem cleanB_succ (kl : Int → Nat) (L : List Atm) (n : Nat) : cleanB kl L (n + 1) = (cleanB kl L n && relB kl L (n : Int)) := by
  unfold cleanB
  rw [List.range_succ, List.all_append]
  simp
theorem clean_iff {kl : Int → Nat} {L : List Atm} (hF : ∀ f ∈ L, okF f = true) (hlen : ∀ f ∈ L, ∀ g ∈ L, f.1 = g.1 → f.2.length = g.2.length) : cleanB kl L 6 = true ↔ Clean kl L := by
  unfold cleanB
  rw [List.all_eq_true]
  constructor
  · intro h f hf g hg e
    have ho := okF_iff.1 (hF f hf)
    refine (rel_iff hlen f.1).1 ?_ f hf g hg rfl e
    have := h f.1.toNat (List.mem_range.2 (by omega))
    rwa [Int.toNat_of_nonneg ho.1] at this
  · intro h r hr
    exact (rel_iff hlen _).2 fun f hf g hg _ e => h f hf g hg e
end Go.Proofs.Ytleiddajojgmmaa
