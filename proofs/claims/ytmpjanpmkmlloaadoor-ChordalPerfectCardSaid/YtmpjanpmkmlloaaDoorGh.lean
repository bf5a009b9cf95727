/- Holes: what a list must be to be one, the search in depth, that it finds one if there is one. No program, no condition. -/
import Derived.Test.YtmpjanpmkmlloaaDoorGo
namespace Go.Proofs.YtmpjanpmkmlloaaDoor
open Go Go.RowKit VC
set_option linter.unusedSimpArgs false
set_option linter.unusedVariables false

def gi (l : List Int) (i : Nat) : Int := l.getD i 0
theorem gi_get {l : List Int} {i : Nat} (h : i < l.length) : l[i] = gi l i := by simp [gi, h]
def gn (l : List Nat) (i : Nat) : Nat := l.getD i 0
theorem gn_get {l : List Nat} {i : Nat} (h : i < l.length) : l[i] = gn l i := by simp [gn, h]
theorem gi_ofN (l : List Nat) (i : Nat) : gi (ofN l) i = ((gn l i : Nat) : Int) := by
  by_cases h : i < l.length
  · rw [← gi_get (by simpa using h), ofN_get, gn_get h]
  · simp [gi, gn, ofN, h]
def ed (N : List Nat) (x y : Int) : Bool := (nb N x.toNat).testBit y.toNat
structure HoleP (N : List Nat) (l : List Int) : Prop where
  four : 4 ≤ l.length
  rng : ∀ i, i < l.length → 0 ≤ gi l i ∧ gi l i < N.length
  least : ∀ i, i < l.length → gi l 0 ≤ gi l i
  ne : ∀ i j, i < l.length → j < i → gi l i ≠ gi l j
  adj : ∀ i j, i < l.length → j < i → (ed N (gi l i) (gi l j) = true ↔ i - j = 1 ∨ i - j = l.length - 1)
  turn : gi l 1 < gi l (l.length - 1)
theorem HoleP.le {N : List Nat} {l : List Int} (h : HoleP N l) : l.length ≤ N.length := by
  have hnd : l.Nodup := by
    rw [List.nodup_iff_pairwise_ne, List.pairwise_iff_getElem]
    intro i j hi hj hij
    rw [gi_get hi, gi_get hj]
    exact fun e => h.ne j i hj hij e.symm
  have : l.length ≤ ((List.range N.length).map fun n : Nat => (n : Int)).length := by
    refine hnd.length_le_of_subset fun x hx => ?_
    obtain ⟨i, hi, rfl⟩ := List.mem_iff_getElem.1 hx
    have := h.rng i hi
    rw [gi_get hi]
    exact List.mem_map.2 ⟨(gi l i).toNat, List.mem_range.2 (by omega), by omega⟩
  simpa using this
theorem HoleP.take {N : List Nat} (hN : VN N) {l : List Int} : HoleP N (l.take 14) ↔ HoleP N l := by
  have h12 := hN.le
  by_cases hl : l.length ≤ 14
  · rw [List.take_of_length_le hl]
  · constructor
    · intro h
      have := h.le
      simp at this; omega
    · intro h
      have := h.le; omega
open Classical in
noncomputable def holeB (N : List Nat) (l : List Int) : Bool := decide (HoleP N l)
theorem holeB_iff {N : List Nat} {l : List Int} : holeB N l = true ↔ HoleP N l := by simp [holeB]

/-! ## The search -/
/-- x may follow the way l. -/
def extB (N : List Nat) (long : Nat) (l : List Nat) (x : Nat) : Bool :=
  (nb N (gn l (l.length - 1))).testBit x && decide (gn l 0 < x) && (List.range (l.length - 1)).all fun k => decide (x ≠ gn l k) && (!(nb N (gn l k)).testBit x || (decide (k = 0) && decide (long ≤ l.length + 1)))
noncomputable def dfs (N : List Nat) (long : Nat) : Nat → List Nat → Option (List Nat)
  | 0, l => if holeB N (ofN l) then some l else none
  | f + 1, l => (List.range 12).findSome? fun x => if extB N long l x then dfs N long f (l ++ [x]) else none
noncomputable def holeS (N : List Nat) (long : Nat) : Option (List Nat) := (List.range N.length).findSome? fun s => dfs N long (long - 1) [s]
theorem dfs_sound {N : List Nat} {long : Nat} : ∀ {f : Nat} {l r : List Nat}, dfs N long f l = some r → HoleP N (ofN r) ∧ r.length = l.length + f
  | 0, l, r, h => by
    unfold dfs at h
    split at h
    · rename_i hh
      simp at h; subst h
      exact ⟨holeB_iff.1 hh, rfl⟩
    · cases h
  | f + 1, l, r, h => by
    unfold dfs at h
    obtain ⟨x, hx, h⟩ := List.exists_of_findSome?_eq_some h
    split at h
    · have := dfs_sound h
      refine ⟨this.1, ?_⟩
      rw [this.2]; simp; omega
    · cases h
theorem ext_of_hole {N : List Nat} (hN : VN N) {l : List Nat} (h : HoleP N (ofN l)) {k : Nat} (hk : 1 ≤ k) (hkl : k < l.length) : extB N l.length (l.take k) (gn l k) = true := by
  have hlen : (l.take k).length = k := by simp; omega
  have hgn : ∀ j, j < k → gn (l.take k) j = gn l j := fun j hj => by simp [gn, hj]
  have hl : (ofN l).length = l.length := by simp
  have key : ∀ i j, i < l.length → j < i → ((nb N (gn l i)).testBit (gn l j) = true ↔ i - j = 1 ∨ i - j = l.length - 1) := fun i j hi hj => by
    have := h.adj i j (by simpa using hi) hj
    rw [gi_ofN, gi_ofN, hl] at this
    simpa [ed] using this
  have hne : ∀ i j, i < l.length → j < i → gn l i ≠ gn l j := fun i j hi hj e => h.ne i j (by simpa using hi) hj (by rw [gi_ofN, gi_ofN, e])
  unfold extB
  rw [hlen, hgn _ (by omega), hgn _ (by omega)]
  simp only [Bool.and_eq_true, decide_eq_true_eq, List.all_eq_true, List.mem_range, Bool.or_eq_true, Bool.not_eq_true']
  refine ⟨⟨?_, ?_⟩, fun j hj => ?_⟩
  · rw [hN.sym']
    exact (key k (k - 1) hkl (by omega)).2 (.inl (by omega))
  · have h1 := h.least k (by simpa using hkl)
    rw [gi_ofN, gi_ofN] at h1
    have h2 := hne k 0 hkl (by omega)
    omega
  · rw [hgn j (by omega)]
    refine ⟨hne k j hkl (by omega), ?_⟩
    cases hb : (nb N (gn l j)).testBit (gn l k) with
    | false => exact .inl rfl
    | true =>
      rw [hN.sym'] at hb
      rcases (key k j hkl (by omega)).1 hb with h1 | h1
      · omega
      · exact .inr ⟨by omega, by omega⟩
theorem gn_lt {N : List Nat} {l : List Nat} (h : HoleP N (ofN l)) {k : Nat} (hk : k < l.length) : gn l k < N.length := by
  have := (h.rng k (by simpa using hk)).2
  rw [gi_ofN] at this; omega
theorem dfs_complete {N : List Nat} (hN : VN N) {l : List Nat} (h : HoleP N (ofN l)) : ∀ f, f + 1 ≤ l.length → (dfs N l.length f (l.take (l.length - f))).isSome = true
  | 0, _ => by
    rw [Nat.sub_zero, List.take_length]
    unfold dfs
    rw [if_pos (holeB_iff.2 h)]
    rfl
  | f + 1, hf => by
    have ih := dfs_complete hN h f (by omega)
    have hk : l.length - (f + 1) < l.length := by omega
    have he := ext_of_hole hN h (k := l.length - (f + 1)) (by omega) hk
    have h12 := hN.le
    unfold dfs
    cases hs : (List.range 12).findSome? (fun x => if extB N l.length (l.take (l.length - (f + 1))) x then dfs N l.length f (l.take (l.length - (f + 1)) ++ [x]) else none) with
    | some r => rfl
    | none =>
      rw [List.findSome?_eq_none_iff] at hs
      have := hs (gn l (l.length - (f + 1))) (List.mem_range.2 (by have := gn_lt h hk; omega))
      rw [if_pos he] at this
      have e : l.take (l.length - (f + 1)) ++ [gn l (l.length - (f + 1))] = l.take (l.length - f) := by
        have e2 : l.length - f = l.length - (f + 1) + 1 := by omega
        rw [e2, List.take_succ_eq_append_getElem hk, gn_get hk]
      rw [e] at this
      rw [this] at ih
      cases ih
theorem holeS_sound {N : List Nat} {long : Nat} {r : List Nat} (h1 : 1 ≤ long) (h : holeS N long = some r) : HoleP N (ofN r) ∧ r.length = long := by
  unfold holeS at h
  obtain ⟨x, hx, h⟩ := List.exists_of_findSome?_eq_some h
  have := dfs_sound h
  refine ⟨this.1, ?_⟩
  rw [this.2]; simp; omega
theorem holeS_complete {N : List Nat} (hN : VN N) {l : List Nat} (h : HoleP N (ofN l)) : (holeS N l.length).isSome = true := by
  have h4 : 4 ≤ l.length := by simpa using h.four
  have hc := dfs_complete hN h (l.length - 1) (by omega)
  unfold holeS
  cases hs : (List.range N.length).findSome? (fun s => dfs N l.length (l.length - 1) [s]) with
  | some r => rfl
  | none =>
    rw [List.findSome?_eq_none_iff] at hs
    have := hs (gn l 0) (List.mem_range.2 (gn_lt h (by omega)))
    have e : l.take (l.length - (l.length - 1)) = [gn l 0] := by
      have e2 : l.length - (l.length - 1) = 0 + 1 := by omega
      rw [e2, List.take_succ_eq_append_getElem (by omega), gn_get (by omega)]
      rfl
    rw [e, this] at hc
    cases hc
/-- The first length from 4 on that has a hole. -/
noncomputable def firstH (N : List Nat) : Option (List Nat) := (List.range (N.length + 1)).findSome? fun k => if 4 ≤ k then holeS N k else none
theorem ofN_toNat {l : List Int} (h : ∀ i, i < l.length → 0 ≤ gi l i) : ofN (l.map Int.toNat) = l := by
  apply List.ext_getElem
  · simp [ofN]
  · intro i h1 h2
    have := h i h2
    rw [← gi_get h2] at this
    simp [ofN]; omega
theorem firstH_none {N : List Nat} (hN : VN N) : firstH N = none ↔ ∀ l, ¬ HoleP N l := by
  constructor
  · intro h l hl
    unfold firstH at h
    rw [List.findSome?_eq_none_iff] at h
    have e : ofN (l.map Int.toNat) = l := ofN_toNat fun i hi => (hl.rng i hi).1
    have h1 := h l.length (List.mem_range.2 (by have := hl.le; omega))
    rw [if_pos hl.four] at h1
    have h2 := holeS_complete hN (l := l.map Int.toNat) (by rw [e]; exact hl)
    rw [List.length_map, h1] at h2
    cases h2
  · intro h
    unfold firstH
    rw [List.findSome?_eq_none_iff]
    intro k _
    split
    · cases hs : holeS N k with
      | none => rfl
      | some r => exact absurd (holeS_sound (by omega) hs).1 (h _)
    · rfl
end Go.Proofs.YtmpjanpmkmlloaaDoor
