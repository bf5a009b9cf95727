/- Searching by a function that leaves traces: an invariant from element to element. Least and greatest elements; Contains. -/
import Derived.Test.YtmpjanpmkmlloaaDoorCa
namespace Go.Proofs.YtmpjanpmkmlloaaDoor
open Go Go.RowKit VC
set_option linter.unusedSimpArgs false
set_option linter.unusedVariables false

/-- The function value f, asked of one element after another. -/
def AskI (f : Value) (xs : List Int) (Inv : Nat → World → Prop) (Post : Nat → World → Prop) : Prop :=
  ∃ g fst cap, f = .func (.func g) fst cap ∧ callOK g = true ∧ ∀ k (hk : k < xs.length) w', Inv k w' →
    Calls Tryd.prog g (fst ++ #[.int .i64 xs[k]] ++ cap) w' fun e w'' => ∃ b : Bool, e = .returned (.bool b) ∧ (b = true → Post k w'') ∧ (b = false → Inv (k + 1) w'')
theorem indexFunc_inv {w : World} {v f : Value} {xs : List Int} {Inv Post : Nat → World → Prop} (h0 : Inv 0 w) (hs : ∀ k w', Inv k w' → SlI w' v xs) (hf : AskI f xs Inv Post) :
    Calls Tryd.prog 80 #[v, f] w fun e w' => (∃ k, k < xs.length ∧ e = .returned (.int .i64 (k : Int)) ∧ Post k w') ∨ (e = .returned (.int .i64 (-1)) ∧ Inv xs.length w') := by
  refine f80_calls _ _ ?_
  obtain ⟨g, fst, cap, rfl, hg, hcall⟩ := hf
  have hle := (hs 0 w h0).len_le
  refine (hs 0 w h0).ln ⟨fun t w' => ∃ k : Nat, t = k ∧ k ≤ xs.length ∧ Inv k w', fun t _ => xs.length - t.toNat, ⟨0, rfl, by omega, h0⟩, ?_⟩
  rintro - t w1 ⟨k, rfl, hk, hi⟩
  refine condD (fun hlt => ?_) (fun hge => ?_)
  · have hkl : k < xs.length := by omega
    refine (hs k w1 hi).rd rfl hkl ⟨g, fst, cap, rfl, hg, (hcall k hkl w1 hi).mono ?_⟩
    rintro e w2 ⟨b, rfl, hp, hn⟩
    refine ⟨b, rfl, condP_i (fun hb => .inl ⟨k, hkl, rfl, hp hb⟩) (fun hb => ?_)⟩
    exact ⟨by unfold inR; omega, ⟨k + 1, by omega, by omega, hn hb⟩, by dsimp only; omega⟩
  · have : k = xs.length := by omega
    subst this
    exact .inr ⟨rfl, hi⟩
theorem containsFunc_inv {w : World} {v f : Value} {xs : List Int} {Inv Post : Nat → World → Prop} (h0 : Inv 0 w) (hs : ∀ k w', Inv k w' → SlI w' v xs) (hf : AskI f xs Inv Post) :
    Calls Tryd.prog 74 #[v, f] w fun e w' => ∃ b : Bool, e = .returned (.bool b) ∧ (b = true → ∃ k, k < xs.length ∧ Post k w') ∧ (b = false → Inv xs.length w') := by
  refine f74_calls _ _ ?_
  refine (indexFunc_inv h0 hs hf).mono ?_
  rintro e w' (⟨k, hk, rfl, hp⟩ | ⟨rfl, hi⟩)
  · refine ⟨_, rfl, _, rfl, fun _ => ⟨k, hk, hp⟩, fun h => ?_⟩
    simp at h
  · exact ⟨_, rfl, _, rfl, (fun h => by simp at h), fun _ => hi⟩
/-! ## Contains, Min, Max -/
theorem index_c {w : World} {v : Value} {xs : List Int} {x : Int} (hs : SlI w v xs) : Calls Tryd.prog 105 #[v, .int .i64 x] w (Ret w (.int .i64 (idxOf (fun y => decide (x = y)) xs))) := by
  refine f105_calls _ _ ?_
  have hle := hs.len_le
  refine hs.ln ⟨fun t w' => ∃ k : Nat, t = k ∧ k ≤ xs.length ∧ Grow w w' ∧ ∀ j (hj : j < xs.length), j < k → x ≠ xs[j], fun t _ => xs.length - t.toNat, ⟨0, rfl, by omega, Grow.refl w, fun j _ h => by omega⟩, ?_⟩
  rintro - t w1 ⟨k, rfl, hk, hw, hno⟩
  refine condD (fun hlt => ?_) (fun hge => ?_)
  · have hkl : k < xs.length := by omega
    refine (hs.grow hw).rd rfl hkl (condD (fun hp => ⟨?_, hw⟩) (fun hp => ?_))
    · have : xs.findIdx? (fun y => decide (x = y)) = some k := List.findIdx?_eq_some_iff_getElem.2 ⟨hkl, by simpa using hp, fun j hj => by simpa using hno j (by omega) hj⟩
      rw [idxOf, this]
    · refine ⟨by unfold inR; omega, ⟨k + 1, by omega, by omega, hw, fun j hj hjk => ?_⟩, by dsimp only; omega⟩
      by_cases e : j = k
      · subst e; exact hp
      · exact hno j hj (by omega)
  · refine ⟨?_, hw⟩
    have : xs.findIdx? (fun y => decide (x = y)) = none := List.findIdx?_eq_none_iff.2 fun y hy => by
      obtain ⟨j, hj, rfl⟩ := List.mem_iff_getElem.1 hy
      simpa using hno j hj (by omega)
    rw [idxOf, this]
theorem contains_c {w : World} {v : Value} {xs : List Int} {x : Int} (hs : SlI w v xs) : Calls Tryd.prog 77 #[v, .int .i64 x] w (Ret w (.bool (decide (x ∈ xs)))) := by
  refine f77_calls _ _ ?_
  refine (index_c hs).mono ?_
  rintro e w' ⟨rfl, hg⟩
  refine ⟨_, rfl, ?_, hg⟩
  rw [idxOf_any]
  congr 3
  rw [Bool.eq_iff_iff]
  rw [List.any_eq_true]
  constructor
  · rintro ⟨y, hy, h⟩
    have : x = y := by simpa using h
    simpa [this] using hy
  · intro h
    exact ⟨x, by simpa using h, by simp⟩
def minI (xs : List Int) : Int := xs.foldl (fun m x => if x < m then x else m) (xs.headD 0)
def maxI (xs : List Int) : Int := xs.foldl (fun m x => if m < x then x else m) (xs.headD 0)
theorem fold_min (m : Int) : ∀ (xs : List Int) (y : Int), y ≤ xs.foldl (fun m x => if x < m then x else m) m ↔ y ≤ m ∧ ∀ x ∈ xs, y ≤ x
  | [], y => by simp
  | x :: r, y => by
    rw [List.foldl_cons, fold_min _ r y]
    simp only [List.mem_cons, forall_eq_or_imp]
    split
    · constructor
      · rintro ⟨h1, h2⟩; exact ⟨by omega, h1, h2⟩
      · rintro ⟨_, h1, h2⟩; exact ⟨h1, h2⟩
    · constructor
      · rintro ⟨h1, h2⟩; exact ⟨h1, by omega, h2⟩
      · rintro ⟨h1, _, h2⟩; exact ⟨h1, h2⟩
theorem fold_max (m : Int) : ∀ (xs : List Int) (y : Int), xs.foldl (fun m x => if m < x then x else m) m ≤ y ↔ m ≤ y ∧ ∀ x ∈ xs, x ≤ y
  | [], y => by simp
  | x :: r, y => by
    rw [List.foldl_cons, fold_max _ r y]
    simp only [List.mem_cons, forall_eq_or_imp]
    split
    · constructor
      · rintro ⟨h1, h2⟩; exact ⟨by omega, h1, h2⟩
      · rintro ⟨_, h1, h2⟩; exact ⟨h1, h2⟩
    · constructor
      · rintro ⟨h1, h2⟩; exact ⟨h1, by omega, h2⟩
      · rintro ⟨h1, _, h2⟩; exact ⟨h1, h2⟩
theorem le_minI {xs : List Int} (h : xs ≠ []) (y : Int) : y ≤ minI xs ↔ ∀ x ∈ xs, y ≤ x := by
  cases xs with
  | nil => exact absurd rfl h
  | cons a r => unfold minI; rw [fold_min]; simp
theorem maxI_le {xs : List Int} (h : xs ≠ []) (y : Int) : maxI xs ≤ y ↔ ∀ x ∈ xs, x ≤ y := by
  cases xs with
  | nil => exact absurd rfl h
  | cons a r => unfold maxI; rw [fold_max]; simp
theorem min_c {w : World} {v : Value} {xs : List Int} (hs : SlI w v xs) (h : xs ≠ []) : Calls Tryd.prog 90 #[v] w (Ret w (.int .i64 (minI xs))) := by
  refine f90_calls _ ?_
  have hle := hs.len_le
  have hpos : 0 < xs.length := List.length_pos_iff.2 h
  have hhead : xs.headD 0 = xs[0] := by cases xs with | nil => exact absurd rfl h | cons a r => rfl
  refine hs.ln (condD (fun hlt => by omega) fun _ => hs.rd (i := 0) rfl hpos ⟨fun m t w' => ∃ k : Nat, t = k ∧ k ≤ xs.length ∧ m = (xs.take k).foldl (fun m x => if x < m then x else m) (xs.headD 0) ∧ Grow w w', fun _ t _ => xs.length - t.toNat, ⟨1, rfl, by omega, ?_, Grow.refl w⟩, ?_⟩)
  · cases xs with
    | nil => exact absurd rfl h
    | cons a r => simp
  rintro - m t w1 ⟨k, rfl, hk, rfl, hg⟩
  refine (hs.grow hg).ln (condD (fun hlt => ?_) (fun hge => ?_))
  · have hkl : k < xs.length := by omega
    refine (hs.grow hg).rd rfl hkl ⟨by unfold inR; omega, ⟨k + 1, by omega, by omega, ?_, hg⟩, by dsimp only; omega⟩
    rw [List.take_succ_eq_append_getElem hkl, List.foldl_append]
    rfl
  · have : k = xs.length := by omega
    subst this
    rw [List.take_length]
    exact ⟨rfl, hg⟩
theorem max_c {w : World} {v : Value} {xs : List Int} (hs : SlI w v xs) (h : xs ≠ []) : Calls Tryd.prog 91 #[v] w (Ret w (.int .i64 (maxI xs))) := by
  refine f91_calls _ ?_
  have hle := hs.len_le
  have hpos : 0 < xs.length := List.length_pos_iff.2 h
  refine hs.ln (condD (fun hlt => by omega) fun _ => hs.rd (i := 0) rfl hpos ⟨fun m t w' => ∃ k : Nat, t = k ∧ k ≤ xs.length ∧ m = (xs.take k).foldl (fun m x => if m < x then x else m) (xs.headD 0) ∧ Grow w w', fun _ t _ => xs.length - t.toNat, ⟨1, rfl, by omega, ?_, Grow.refl w⟩, ?_⟩)
  · cases xs with
    | nil => exact absurd rfl h
    | cons a r => simp
  rintro - m t w1 ⟨k, rfl, hk, rfl, hg⟩
  refine (hs.grow hg).ln (condD (fun hlt => ?_) (fun hge => ?_))
  · have hkl : k < xs.length := by omega
    refine (hs.grow hg).rd rfl hkl ⟨by unfold inR; omega, ⟨k + 1, by omega, by omega, ?_, hg⟩, by dsimp only; omega⟩
    rw [List.take_succ_eq_append_getElem hkl, List.foldl_append]
    rfl
  · have : k = xs.length := by omega
    subst this
    rw [List.take_length]
    exact ⟨rfl, hg⟩
end Go.Proofs.YtmpjanpmkmlloaaDoor
