/- Contracts of package chordal and of its reference: what is a hole. The table of bits is laid (Tab). -/
import Derived.Test.YtmpjanpmkmlloaaDoorCe
import Derived.Test.YtmpjanpmkmlloaaDoorCf
import Derived.Test.YtmpjanpmkmlloaaDoorGh
namespace Go.Proofs.YtmpjanpmkmlloaaDoor
open Go Go.RowKit VC
set_option linter.unusedSimpArgs false
set_option linter.unusedVariables false

/-- What the code asks of two places of a list. -/
def pairP (N : List Nat) (l : List Int) (i j : Nat) : Prop := gi l i ≠ gi l j ∧ (ed N (gi l i) (gi l j) = true ↔ i - j = 1 ∨ i - j = l.length - 1)
theorem HoleP.pair {N : List Nat} {l : List Int} (h : HoleP N l) {i j : Nat} (hi : i < l.length) (hj : j < i) : pairP N l i j := ⟨h.ne i j hi hj, h.adj i j hi hj⟩
theorem bit_ed {N : List Nat} {x y : Nat} (hy : y < 12) : (iAnd .i64 (iShr .i64 ((nb N x : Nat) : Int) (y : Int)) 1 = 1) ↔ (nb N x).testBit y = true := by
  rw [iBit _ (by omega), ibit_nat]
  cases (nb N x).testBit y <;> simp
theorem isHole_c {w : World} {v u : Value} {N : List Nat} {l : List Int} (hs : SlI w v (ofN N)) (hu : SlI w u l) (hN : VN N) {b : Bool} (hb : b = true ↔ HoleP N l) : Calls Tryd.prog 30 #[v, u] w (Ret w (.bool b)) := by
  refine f30_calls _ _ ?_
  have h12 := hN.le
  have hle := hu.len_le
  have no : ∀ {w'}, Grow w w' → ¬ HoleP N l → Ret w (.bool b) (.returned (.bool false)) w' := fun hg h => by
    have : b = false := by cases b with | false => rfl | true => exact absurd (hb.1 rfl) h
    subst this
    exact ⟨rfl, hg⟩
  refine hu.ln (condD (fun h => no (Grow.refl w) fun hh => by have := hh.four; omega) fun h4 => hu.ln ?_)
  refine ⟨fun t w' => ∃ k : Nat, t = k ∧ k ≤ l.length ∧ Grow w w' ∧ ∀ i, i < k → (0 ≤ gi l i ∧ gi l i < N.length) ∧ gi l 0 ≤ gi l i ∧ ∀ j, j < i → pairP N l i j, fun t _ => l.length - t.toNat, ⟨0, rfl, by omega, Grow.refl w, fun i h => by omega⟩, ?_⟩
  rintro - t w1 ⟨k, rfl, hk, hg, hall⟩
  refine condD (fun hlt => ?_) (fun hge => ?_)
  · have hkl : k < l.length := by omega
    refine (hu.grow hg).rd rfl hkl ?_
    rw [gi_get hkl]
    refine condD (fun h => no hg fun hh => by have := hh.rng k hkl; omega) fun hx0 => hs.ln (condD (fun h => no hg fun hh => by have := hh.rng k hkl; simp at h; omega) fun hx1 => (hu.grow hg).rd (i := 0) rfl (by omega) ?_)
    rw [gi_get (show 0 < l.length by omega)]
    refine condD (fun h => no hg fun hh => by have := hh.least k hkl; omega) fun hx2 => ?_
    have hx1 : gi l k < (N.length : Int) := by simp at hx1; omega
    obtain ⟨xn, hxn⟩ : ∃ xn : Nat, gi l k = (xn : Int) := ⟨(gi l k).toNat, by omega⟩
    obtain ⟨a, n, c, e, lo, hh, m, hsb, hv'⟩ := (hu.grow hg).upto (k := .i64) (i := k) rfl (by omega) (K := fun v' => SlI w1 v' (l.take k)) fun v' hv' => hv'
    have htl : (l.take k).length = k := by simp; omega
    refine ⟨a, n, c, e, lo, hh, m, hsb, hv'.ln ?_⟩
    rw [htl]
    refine ⟨fun t w' => ∃ j : Nat, t = j ∧ j ≤ k ∧ Grow w1 w' ∧ ∀ i, i < j → pairP N l k i, fun t _ => k - t.toNat, ⟨0, rfl, by omega, Grow.refl w1, fun i h => by omega⟩, ?_⟩
    rintro - t w2 ⟨j, rfl, hj, hg2, hrow⟩
    have hg02 := hg.trans hg2
    refine condD (fun hlt2 => ?_) (fun hge2 => ?_)
    · have hjk : j < k := by omega
      refine (hv'.grow hg2).rd rfl (by omega) ?_
      have egi : (l.take k)[j]'(by omega) = gi l j := by rw [List.getElem_take, gi_get (by omega)]
      rw [egi]
      have hy := (hall j hjk).1
      obtain ⟨yn, hyn⟩ : ∃ yn : Nat, gi l j = (yn : Int) := ⟨(gi l j).toNat, by omega⟩
      have hed : ed N (gi l k) (gi l j) = (nb N xn).testBit yn := by rw [hxn, hyn]; rfl
      have next : ∀ {w'}, Grow w1 w' → pairP N l k j → ∃ j' : Nat, (j : Int) + 1 = j' ∧ j' ≤ k ∧ Grow w1 w' ∧ ∀ i, i < j' → pairP N l k i := fun hg' hp =>
        ⟨j + 1, by omega, by omega, hg', fun i hi => by
          by_cases ei : i = j
          · subst ei; exact hp
          · exact hrow i (by omega)⟩
      refine ⟨by unfold inR; omega, condD (fun h1 => condD (fun he => no hg02 fun hh => (hh.pair hkl hjk).1 he) fun he => ?_) fun h1 => ⟨by unfold inR; omega, by unfold inR; omega, condD (fun he => no hg02 fun hh => (hh.pair hkl hjk).1 he) fun he => ?_⟩⟩
      · rw [hxn, hyn]
        refine (hs.grow hg02).rd rfl (by simp; omega) ⟨by omega, ?_⟩
        rw [ofN_get, nb_get]
        refine condP_i (fun h => no hg02 fun hh => ?_) fun h => ?_
        · have := (hh.pair hkl hjk).2
          rw [hed, ← bit_ed (by omega)] at this
          simp at h
          exact h (this.2 (.inl (by omega)))
        · refine ⟨by unfold inR; omega, next hg2 ⟨he, ?_⟩, by dsimp only; omega⟩
          rw [hed, ← bit_ed (by omega)]
          simp at h
          exact ⟨fun _ => .inl (by omega), fun _ => h⟩
      · rw [hxn, hyn]
        refine (hs.grow hg02).rd rfl (by simp; omega) ⟨by omega, ?_⟩
        rw [ofN_get, nb_get]
        refine condP_i (fun h => no hg02 fun hh => ?_) fun h => ?_
        · have := (hh.pair hkl hjk).2
          rw [hed, ← bit_ed (by omega)] at this
          simp only [bne_iff_ne, ne_eq, decide_eq_decide] at h
          refine h ⟨fun hb => ?_, fun hb => ?_⟩
          · rcases this.1 hb with h2 | h2 <;> omega
          · exact this.2 (.inr (by omega))
        · refine ⟨by unfold inR; omega, next hg2 ⟨he, ?_⟩, by dsimp only; omega⟩
          rw [hed, ← bit_ed (by omega)]
          simp only [bne_eq_false_iff_eq, decide_eq_decide] at h
          rw [h]
          constructor
          · intro h2; exact .inr (by omega)
          · rintro (h2 | h2) <;> omega
    · have : j = k := by omega
      subst this
      refine ⟨by unfold inR; omega, ⟨j + 1, by omega, by omega, hg02, fun i hi => ?_⟩, by dsimp only; omega⟩
      by_cases ei : i = j
      · subst ei; exact ⟨⟨by omega, hx1⟩, by omega, hrow⟩
      · exact hall i (by omega)
  · have hkl : k = l.length := by omega
    subst hkl
    refine (hu.grow hg).rd (i := 1) rfl (by omega) ⟨by unfold inR; omega, (hu.grow hg).rd (i := l.length - 1) (by omega) (by omega) fun m => ⟨?_, hg.dr m⟩⟩
    rw [gi_get, gi_get]
    have : b = decide (gi l 1 < gi l (l.length - 1)) := by
      rw [Bool.eq_iff_iff, hb, decide_eq_true_eq]
      constructor
      · exact fun hh => hh.turn
      · exact fun ht => ⟨by omega, fun i hi => (hall i hi).1, fun i hi => (hall i hi).2.1, fun i j hi hj => ((hall i hi).2.2 j hj).1, fun i j hi hj => ((hall i hi).2.2 j hj).2, ht⟩
    rw [this]
theorem hole_c {w : World} {v u : Value} {N : List Nat} {l : List Int} (hs : SlI w v (ofN N)) (hu : SlI w u l) (hN : VN N) {b : Bool} (hb : b = true ↔ HoleP N l) : Calls Tryd.prog 73 #[v, u] w (Ret w (.bool b)) := by
  refine f73_calls _ _ ?_
  have h12 := hN.le
  have hle := hu.len_le
  have no : ∀ {w'}, Grow w w' → ¬ HoleP N l → Ret w (.bool b) (.returned (.bool false)) w' := fun hg h => by
    have : b = false := by cases b with | false => rfl | true => exact absurd (hb.1 rfl) h
    subst this
    exact ⟨rfl, hg⟩
  have hmem : ∀ x, x ∈ l ↔ ∃ i, i < l.length ∧ gi l i = x := fun x => by
    rw [List.mem_iff_getElem]
    constructor
    · rintro ⟨i, hi, rfl⟩; exact ⟨i, hi, (gi_get hi).symm⟩
    · rintro ⟨i, hi, rfl⟩; exact ⟨i, hi, gi_get hi⟩
  refine hu.ln (condD (fun h w' g' => no g' fun hh => by have := hh.four; omega) fun h4 => hs.ln (condD (fun h w' g' => no g' fun hh => by have := hh.le; simp at h; omega) fun hlen => ?_))
  have hne : l ≠ [] := fun e => by subst e; simp at h4
  have hmin := le_minI hne
  have hmax := maxI_le hne
  refine ⟨minI l, fun w' g' => min_c (hu.grow g') hne, condD (fun h w' g' => no g' fun hh => ?_) fun hmin0 => ⟨maxI l, fun w' g' => max_c (hu.grow g') hne, hs.ln (condD (fun h w' g' => no g' fun hh => ?_) fun hmax0 => hu.rd (i := 0) rfl (by omega) ?_)⟩⟩
  · have := (hmin 0).2 fun x hx => by
      obtain ⟨i, hi, rfl⟩ := (hmem x).1 hx
      exact (hh.rng i hi).1
    omega
  · have := (hmax (N.length - 1)).2 fun x hx => by
      obtain ⟨i, hi, rfl⟩ := (hmem x).1 hx
      have := (hh.rng i hi).2; omega
    simp at h; omega
  rw [gi_get (show 0 < l.length by omega)]
  have hin : ∀ i, i < l.length → 0 ≤ gi l i ∧ gi l i < N.length := fun i hi => by
    have h1 := (hmin 0).1 (by omega) _ ((hmem _).2 ⟨i, hi, rfl⟩)
    have h2 := (hmax (maxI l)).1 (by omega) _ ((hmem _).2 ⟨i, hi, rfl⟩)
    simp at hmax0
    omega
  refine ⟨minI l, fun w' g' => min_c (hu.grow g') hne, condP_i (fun h w' g' => no g' fun hh => ?_) fun heq => hu.rd (i := 1) rfl (by omega) ⟨by unfold inR; omega, hu.rd (i := l.length - 1) (by omega) (by omega) fun w1 hg => ?_⟩⟩
  · simp at h
    have h1 := (hmin (gi l 0)).2 fun x hx => by
      obtain ⟨i, hi, rfl⟩ := (hmem x).1 hx
      exact hh.least i hi
    have h2 := (hmin (minI l)).1 (by omega) _ ((hmem _).2 ⟨0, by omega, rfl⟩)
    omega
  have heq : gi l 0 = minI l := by simpa using heq
  have hleast : ∀ i, i < l.length → gi l 0 ≤ gi l i := fun i hi => by
    rw [heq]
    exact (hmin (minI l)).1 (by omega) _ ((hmem _).2 ⟨i, hi, rfl⟩)
  rw [gi_get, gi_get]
  refine condD (fun h => no hg fun hh => by have := hh.turn; omega) fun hturn => (hu.grow hg).ln ?_
  refine ⟨fun t w' => ∃ k : Nat, t = k ∧ k ≤ l.length ∧ Grow w w' ∧ ∀ i, i < k → ∀ j, j < i → pairP N l i j, fun t _ => l.length - t.toNat, ⟨0, rfl, by omega, hg, fun i h => by omega⟩, ?_⟩
  rintro - t w1 ⟨k, rfl, hk, hg, hall⟩
  refine condD (fun hlt => ?_) (fun hge => ?_)
  · have hkl : k < l.length := by omega
    refine (hu.grow hg).rd rfl hkl ?_
    rw [gi_get hkl]
    have hx1 := hin k hkl
    obtain ⟨xn, hxn⟩ : ∃ xn : Nat, gi l k = (xn : Int) := ⟨(gi l k).toNat, by omega⟩
    obtain ⟨a, n, c, e, lo, hh, m, hsb, hv'⟩ := (hu.grow hg).upto (k := .i64) (i := k) rfl (by omega) (K := fun v' => SlI w1 v' (l.take k)) fun v' hv' => hv'
    have htl : (l.take k).length = k := by simp; omega
    refine ⟨a, n, c, e, lo, hh, m, hsb, hv'.ln ?_⟩
    rw [htl]
    refine ⟨fun t w' => ∃ j : Nat, t = j ∧ j ≤ k ∧ Grow w1 w' ∧ ∀ i, i < j → pairP N l k i, fun t _ => k - t.toNat, ⟨0, rfl, by omega, Grow.refl w1, fun i h => by omega⟩, ?_⟩
    rintro - t w2 ⟨j, rfl, hj, hg2, hrow⟩
    have hg02 := hg.trans hg2
    refine condD (fun hlt2 => ?_) (fun hge2 => ?_)
    · have hjk : j < k := by omega
      refine (hv'.grow hg2).rd rfl (by omega) ?_
      have egi : (l.take k)[j]'(by omega) = gi l j := by rw [List.getElem_take, gi_get (by omega)]
      rw [egi]
      have hy := hin j (by omega)
      obtain ⟨yn, hyn⟩ : ∃ yn : Nat, gi l j = (yn : Int) := ⟨(gi l j).toNat, by omega⟩
      have hed : ed N (gi l k) (gi l j) = (nb N xn).testBit yn := by rw [hxn, hyn]; rfl
      have next : ∀ {w'}, Grow w1 w' → pairP N l k j → ∃ j' : Nat, (j : Int) + 1 = j' ∧ j' ≤ k ∧ Grow w1 w' ∧ ∀ i, i < j' → pairP N l k i := fun hg' hp =>
        ⟨j + 1, by omega, by omega, hg', fun i hi => by
          by_cases ei : i = j
          · subst ei; exact hp
          · exact hrow i (by omega)⟩
      refine ⟨by unfold inR; omega, condD (fun h1 => condD (fun he => no hg02 fun hh => (hh.pair hkl hjk).1 he) fun he => ?_) fun h1 => ⟨by unfold inR; omega, by unfold inR; omega, condD (fun he => no hg02 fun hh => (hh.pair hkl hjk).1 he) fun he => ?_⟩⟩
      · rw [hxn, hyn]
        refine (hs.grow hg02).rd rfl (by simp; omega) ⟨by omega, ?_⟩
        rw [ofN_get, nb_get]
        refine condP_i (fun h => no hg02 fun hh => ?_) fun h => ?_
        · have := (hh.pair hkl hjk).2
          rw [hed, ← bit_ed (by omega)] at this
          simp at h
          exact h (this.2 (.inl (by omega)))
        · refine ⟨by unfold inR; omega, next hg2 ⟨he, ?_⟩, by dsimp only; omega⟩
          rw [hed, ← bit_ed (by omega)]
          simp at h
          exact ⟨fun _ => .inl (by omega), fun _ => h⟩
      · rw [hxn, hyn]
        refine (hs.grow hg02).rd rfl (by simp; omega) ⟨by omega, ?_⟩
        rw [ofN_get, nb_get]
        refine condP_i (fun h => no hg02 fun hh => ?_) fun h => ?_
        · have := (hh.pair hkl hjk).2
          rw [hed, ← bit_ed (by omega)] at this
          simp only [bne_iff_ne, ne_eq, decide_eq_decide] at h
          refine h ⟨fun hb => ?_, fun hb => ?_⟩
          · rcases this.1 hb with h2 | h2 <;> omega
          · exact this.2 (.inr (by omega))
        · refine ⟨by unfold inR; omega, next hg2 ⟨he, ?_⟩, by dsimp only; omega⟩
          rw [hed, ← bit_ed (by omega)]
          simp only [bne_eq_false_iff_eq, decide_eq_decide] at h
          rw [h]
          constructor
          · intro h2; exact .inr (by omega)
          · rintro (h2 | h2) <;> omega
    · have : j = k := by omega
      subst this
      refine ⟨by unfold inR; omega, ⟨j + 1, by omega, by omega, hg02, fun i hi => ?_⟩, by dsimp only; omega⟩
      by_cases ei : i = j
      · subst ei; exact hrow
      · exact hall i (by omega)
  · have hkl : k = l.length := by omega
    subst hkl
    have : b = true := hb.2 ⟨by omega, hin, hleast, fun i j hi hj => (hall i hi j hj).1, fun i j hi hj => (hall i hi j hj).2, by
      have := (hall (l.length - 1) (by omega) 1 (by omega)).1
      omega⟩
    subst this
    exact ⟨rfl, hg⟩
theorem checkHole_no {w : World} {v u : Value} {G : List Int} (hs : SlI w v G) (hv : ¬ VG G) : Calls Tryd.prog 28 #[v, u] w (Ret w (.tuple #[.bool false, .int .i64 2])) := by
  refine f28_calls _ _ ?_
  refine (valid_c hs (b := false) (by simp [hv])).mono ?_
  rintro e w1 ⟨rfl, g1⟩
  exact ⟨false, rfl, rfl, g1⟩
theorem checkHole_c {w : World} {v u : Value} {N : List Nat} {l : List Int} (hs : SlI w v (ofN N)) (hu : SlI w u l) (hN : VN N) : Calls Tryd.prog 28 #[v, u] w (Ret w (.tuple #[.bool (holeB N l), .int .i64 0])) := by
  refine f28_calls _ _ ?_
  refine (valid_c hs (b := true) (by simp [VG_ofN.2 hN])).mono ?_
  rintro e w1 ⟨rfl, g1⟩
  refine ⟨true, rfl, (hole_c (hs.grow g1) (hu.grow g1) hN holeB_iff).mono ?_⟩
  rintro e w2 ⟨rfl, g2⟩
  exact ⟨_, rfl, rfl, g1.trans g2⟩
end Go.Proofs.YtmpjanpmkmlloaaDoor
