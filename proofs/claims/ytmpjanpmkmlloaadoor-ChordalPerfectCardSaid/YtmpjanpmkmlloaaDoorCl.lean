/- Contracts of package chordal and of its reference: what is a colouring; the reference's sizes and cliques. The table of bits is laid (Tab). -/
import Derived.Test.YtmpjanpmkmlloaaDoorCe
import Derived.Test.YtmpjanpmkmlloaaDoorCf
import Derived.Test.YtmpjanpmkmlloaaDoorCh
import Derived.Test.YtmpjanpmkmlloaaDoorGc
namespace Go.Proofs.YtmpjanpmkmlloaaDoor
open Go Go.RowKit VC
set_option linter.unusedSimpArgs false
set_option linter.unusedVariables false

theorem size_c {s : Nat} (h : s < 4096) {w : World} : Calls Tryd.prog 93 #[.int .i64 (s : Int)] w (Ret w (.int .i64 (pc s : Int))) := by
  refine f93_calls _ ?_
  refine ⟨fun t n w' => ∃ (s' m : Nat), t = (s' : Int) ∧ s' < 4096 ∧ n = (m : Int) ∧ pc s = m + pc s' ∧ Grow w w', fun t _ _ => t.toNat, ⟨s, 0, rfl, h, rfl, by simp, Grow.refl w⟩, ?_⟩
  rintro - t n w1 ⟨s', m, rfl, hs', rfl, he, hg⟩
  have hle := pc_le s
  refine condD (fun hb => ?_) (fun hb => ?_)
  · have h0 : s' ≠ 0 := by omega
    obtain ⟨e1, e2, e3⟩ := els_step hs' h0
    have h1 : ((s' : Int) - 1) = ((s' - 1 : Nat) : Int) := by omega
    refine ⟨by unfold inR; omega, by unfold inR; omega, ⟨s' &&& (s' - 1), m + 1, ?_, by omega, by omega, ?_, hg⟩, ?_⟩
    · rw [h1, iAnd_nat (by omega) (by omega)]
    · have : pc s' = pc (s' &&& (s' - 1)) + 1 := by unfold pc; rw [e1]; rfl
      omega
    · dsimp only
      rw [h1, iAnd_nat (by omega) (by omega)]; omega
  · have h0 : s' = 0 := by omega
    subst h0
    have : pc 0 = 0 := rfl
    rw [he, this]
    exact ⟨rfl, hg⟩
theorem refClique_c {w : World} {v : Value} {N : List Nat} (hs : SlI w v (ofN N)) (hN : VN N) : Calls Tryd.prog 42 #[v] w (Ret w (.int .i64 (omega_ N : Nat))) := by
  refine f42_calls _ ?_
  have hp := hN.pow
  have h12 := hN.le
  have h0 : 0 < 2 ^ N.length := Nat.pow_pos (by omega)
  refine hs.ln ?_
  rw [ofN_len, iShl_one (by omega)]
  refine ⟨by omega, fun b t w' => ∃ k : Nat, t = k ∧ k ≤ 2 ^ N.length ∧ b = ((bestN (cliq N) k : Nat) : Int) ∧ Grow w w', fun _ t _ => 2 ^ N.length - t.toNat, ⟨0, rfl, by omega, rfl, Grow.refl w⟩, ?_⟩
  rintro - b t w2 ⟨k, rfl, hk, rfl, g2⟩
  have hb := bestN_le (q := cliq N) k
  refine condD (fun hlt => ?_) (fun hge => ?_)
  · have hkl : k < 2 ^ N.length := by omega
    refine (isClique_c (hs.grow g2) hN hkl).mono ?_
    rintro e w3 ⟨rfl, g3⟩
    have g23 := g2.trans g3
    refine ⟨_, rfl, condP_i (fun hq => ?_) (fun hq => ?_)⟩
    · refine (size_c (by omega)).mono ?_
      rintro e w4 ⟨rfl, g4⟩
      refine ⟨_, rfl, (size_c (by omega)).mono ?_⟩
      rintro e w5 ⟨rfl, g5⟩
      have g25 := (g23.trans g4).trans g5
      refine ⟨_, rfl, condD (fun hc => ?_) (fun hc => ?_)⟩
      · have hc : pc (bestN (cliq N) k) < pc k := by omega
        exact ⟨by unfold inR; omega, ⟨k + 1, by omega, by omega, by simp [bestN, hc, hq], g25⟩, by dsimp only; omega⟩
      · have hc : ¬ pc (bestN (cliq N) k) < pc k := by omega
        exact ⟨by unfold inR; omega, ⟨k + 1, by omega, by omega, by simp [bestN, hc], g25⟩, by dsimp only; omega⟩
    · exact ⟨by unfold inR; omega, ⟨k + 1, by omega, by omega, by simp [bestN, hq], g23⟩, by dsimp only; omega⟩
  · have hkl : k = 2 ^ N.length := by omega
    subst hkl
    exact ⟨rfl, g2⟩
theorem is_c {w : World} {v : Value} {N : List Nat} (hs : SlI w v (ofN N)) (hN : VN N) : Calls Tryd.prog 43 #[v] w (Ret w (.bool (ordG N).isSome)) := by
  refine f43_calls _ ?_
  refine (refOrder_c hs hN).mono ?_
  rintro e w1 ⟨u, rfl, _, g1⟩
  refine ⟨u, _, rfl, ?_, g1⟩
  cases (ordG N).isSome <;> simp
theorem orAll_lt {l : List Int} (h : ∀ i, i < l.length → 0 ≤ gi l i ∧ gi l i ≤ 11) : orAll l < 4096 := by
  refine Nat.lt_pow_two_of_testBit (n := 12) _ fun i hi => ?_
  cases hb : (orAll l).testBit i with
  | false => rfl
  | true =>
    obtain ⟨x, hx, rfl⟩ := orAll_bit.1 hb
    obtain ⟨j, hj, rfl⟩ := List.mem_iff_getElem.1 hx
    have := h j hj
    rw [gi_get hj] at hi
    omega
theorem orAll_app (l : List Int) (x : Int) : orAll (l ++ [x]) = orAll l ||| 2 ^ x.toNat := by
  apply Nat.eq_of_testBit_eq
  intro i
  rw [Nat.testBit_or, two_bit, Bool.eq_iff_iff, Bool.or_eq_true, orAll_bit, orAll_bit, decide_eq_true_eq]
  simp only [List.mem_append, List.mem_singleton]
  constructor
  · rintro ⟨y, hy | rfl, rfl⟩
    · exact .inl ⟨y, hy, rfl⟩
    · exact .inr rfl
  · rintro (⟨y, hy, rfl⟩ | rfl)
    · exact ⟨y, .inl hy, rfl⟩
    · exact ⟨x, .inr rfl, rfl⟩
theorem orAll_take {l : List Int} {k : Nat} (hk : k < l.length) : orAll (l.take (k + 1)) = orAll (l.take k) ||| 2 ^ (gi l k).toNat := by
  rw [List.take_succ_eq_append_getElem hk, orAll_app, gi_get hk]
theorem orAll_take_lt {l : List Int} {k : Nat} (h : ∀ i, i < k → 0 ≤ gi l i ∧ gi l i ≤ 11) : orAll (l.take k) < 4096 := by
  refine orAll_lt fun i hi => ?_
  have h1 : i < k ∧ i < l.length := by simp at hi; omega
  have h2 : gi (l.take k) i = gi l i := by simp [gi, h1.1]
  rw [h2]; exact h i h1.1
theorem refColoured_c {w : World} {v u : Value} {N : List Nat} {l : List Int} (hs : SlI w v (ofN N)) (hu : SlI w u l) (hN : VN N) : Calls Tryd.prog 41 #[v, u] w (Ret w (.tuple #[.int .i64 (colN N l : Nat), .bool (colB N l)])) := by
  refine f41_calls _ _ ?_
  have h12 := hN.le
  have no : ∀ {w'}, Grow w w' → ¬ ColP N l → Ret w (.tuple #[.int .i64 (colN N l : Nat), .bool (colB N l)]) (.returned (.tuple #[.int .i64 0, .bool false])) w' := fun hg h => by
    have : colB N l = false := by cases hb : colB N l with | false => rfl | true => exact absurd (colB_iff.1 hb) h
    unfold colN
    rw [this]
    exact ⟨rfl, hg⟩
  refine hu.ln (hs.ln (condP_i (fun h => no (Grow.refl w) fun hc => by have := hc.len; simp at h; omega) fun h => hu.ln ?_))
  have hlen : l.length = N.length := by simp at h; omega
  refine ⟨fun s t w' => ∃ k : Nat, t = k ∧ k ≤ l.length ∧ s = ((orAll (l.take k) : Nat) : Int) ∧ Grow w w' ∧ (∀ i, i < k → 0 ≤ gi l i ∧ gi l i ≤ 11) ∧ ∀ i j, i < k → E N i j → gi l j ≠ gi l i, fun _ t _ => l.length - t.toNat, ⟨0, rfl, by omega, rfl, Grow.refl w, fun i h => by omega, fun i j h => by omega⟩, ?_⟩
  rintro - s t w1 ⟨k, rfl, hk, rfl, hg, hr, hp⟩
  have hs4 := orAll_take_lt hr
  refine condD (fun hlt => ?_) (fun hge => ?_)
  · have hkl : k < l.length := by omega
    refine (hu.grow hg).rd rfl hkl ?_
    rw [gi_get hkl]
    refine condD (fun h => no hg fun hc => by have := hc.rng k hkl; omega) fun h0 => condD (fun h => no hg fun hc => by have := hc.rng k hkl; omega) fun h1 => (hs.grow hg).ln ?_
    rw [ofN_len]
    refine ⟨fun t w' => ∃ j : Nat, t = j ∧ j ≤ N.length ∧ Grow w w' ∧ ∀ i, i < j → E N k i → gi l i ≠ gi l k, fun t _ => N.length - t.toNat, ⟨0, rfl, by omega, hg, fun i h => by omega⟩, ?_⟩
    rintro - t w2 ⟨j, rfl, hj, hg2, hrow⟩
    refine condD (fun hlt2 => ?_) (fun hge2 => ?_)
    · have hjl : j < N.length := by omega
      have next : (E N k j → gi l j ≠ gi l k) → ∃ j' : Nat, (j : Int) + 1 = j' ∧ j' ≤ N.length ∧ Grow w w2 ∧ ∀ i, i < j' → E N k i → gi l i ≠ gi l k := fun h =>
        ⟨j + 1, by omega, by omega, hg2, fun i hi => by
          by_cases e : i = j
          · subst e; exact h
          · exact hrow i (by omega)⟩
      refine (hs.grow hg2).rd rfl (by simp; omega) ⟨by omega, ?_⟩
      rw [ofN_get, nb_get]
      refine condD (fun hb => (hu.grow hg2).rd rfl (by omega) ?_) (fun hb => ?_)
      · rw [bit_ed (by omega)] at hb
        rw [gi_get]
        refine condD (fun he => no hg2 fun hc => hc.prop k j hkl hb he) fun he => ⟨by unfold inR; omega, next fun _ => he, by dsimp only; omega⟩
      · rw [bit_ed (by omega)] at hb
        exact ⟨by unfold inR; omega, next fun h => absurd h hb, by dsimp only; omega⟩
    · have hjN : j = N.length := by omega
      subst hjN
      obtain ⟨c, hc⟩ : ∃ c : Nat, gi l k = (c : Int) := ⟨(gi l k).toNat, by omega⟩
      have hor : iOr .i64 ((orAll (l.take k) : Nat) : Int) (iShl .i64 1 (gi l k)) = ((orAll (l.take (k + 1)) : Nat) : Int) := by
        rw [orAll_take hkl, hc, iShl_one (by omega), iOr_nat (by omega) (p2 (by omega))]; simp
      rw [hor]
      refine ⟨by omega, by unfold inR; omega, ⟨k + 1, by omega, by omega, rfl, hg2, fun i hi => ?_, fun i j hi he => ?_⟩, by dsimp only; omega⟩
      · by_cases e : i = k
        · subst e; omega
        · exact hr i (by omega)
      · by_cases e : i = k
        · subst e; exact hrow j (he.lt hN) he
        · exact hp i j (by omega) he
  · have hkl : k = l.length := by omega
    subst hkl
    rw [List.take_length] at hs4 ⊢
    refine (size_c hs4).mono ?_
    rintro e w2 ⟨rfl, g2⟩
    have hc : colB N l = true := colB_iff.2 ⟨hlen, hr, hp⟩
    refine ⟨_, rfl, ?_, hg.trans g2⟩
    unfold colN
    rw [hc]
    rfl
/-- The closure of CheckColours in a world in which its boxes stand. -/
theorem col_lit_c {w : World} {b1 b2 : Nat} {u : Value} {l : List Int} {c : Int} (h1 : w.cell? ⟨b1, 0, none⟩ = some u) (h2 : w.cell? ⟨b2, 0, none⟩ = some (.int .i64 c)) (hu : SlI w u l) {j : Nat} (hj : j < l.length) :
    Calls Tryd.prog 92 #[.int .i64 (j : Int), .pointer (some ⟨b1, 0, none⟩), .pointer (some ⟨b2, 0, none⟩)] w (Ret w (.bool (decide (gi l j = c)))) := by
  refine f92_calls _ _ _ ?_
  refine ⟨u, h1, hu.rd rfl hj ⟨c, h2, fun m => ⟨?_, (Grow.refl w).dr m⟩⟩⟩
  rw [gi_get hj]
theorem checkColours_no {w : World} {v u : Value} {G l : List Int} (hs : SlI w v G) (hu : SlI w u l) (hv : ¬ VG G) : Calls Tryd.prog 40 #[v, u] w (Ret w (.tuple #[.int .i64 0, .bool false, .int .i64 2])) := by
  refine f40_calls _ _ ?_
  refine ⟨hu.one, fun w1 hw1 => ?_⟩
  have g1 := alloc_grow hw1
  refine (valid_c (hs.grow g1) (b := false) (by simp [hv])).mono ?_
  rintro e w2 ⟨rfl, g2⟩
  exact ⟨false, rfl, rfl, g1.trans g2⟩
theorem checkColours_c {w : World} {v u : Value} {N : List Nat} {l : List Int} (hs : SlI w v (ofN N)) (hu : SlI w u l) (hN : VN N) (hT : Tab w) : Calls Tryd.prog 40 #[v, u] w (Ret w (.tuple #[.int .i64 (colN N l : Nat), .bool (colB N l), .int .i64 0])) := by
  refine f40_calls _ _ ?_
  have h12 := hN.le
  have no : ∀ {w'}, Grow w w' → ¬ ColP N l → Ret w (.tuple #[.int .i64 (colN N l : Nat), .bool (colB N l), .int .i64 0]) (.returned (.tuple #[.int .i64 0, .bool false, .int .i64 0])) w' := fun hg h => by
    have : colB N l = false := by cases hb : colB N l with | false => rfl | true => exact absurd (colB_iff.1 hb) h
    unfold colN
    rw [this]
    exact ⟨rfl, hg⟩
  refine ⟨hu.one, fun w1 hw1 => ?_⟩
  have g1 := alloc_grow hw1
  refine (valid_c (hs.grow g1) (b := true) (by simp [VG_ofN.2 hN])).mono ?_
  rintro e w2 ⟨rfl, g2⟩
  have g02 := g1.trans g2
  have cl : ∀ {w'}, Grow w2 w' → w'.cell? ⟨w.heap.size, 0, none⟩ = some u := fun hg => hg.cell (g2.cell (alloc_cell0 hw1))
  refine ⟨true, rfl, ?_⟩
  show ∃ _, _
  refine ⟨u, cl (Grow.refl w2), hu.ln (hs.ln (condP_i (fun h => no g02 fun hc => by have := hc.len; simp at h; omega) fun h => ?_))⟩
  have hlen : l.length = N.length := by simp at h; omega
  have h1 := hN.one
  have hne : l ≠ [] := fun e => by subst e; simp at hlen; omega
  have hmem : ∀ x, x ∈ l ↔ ∃ i, i < l.length ∧ gi l i = x := fun x => by
    rw [List.mem_iff_getElem]
    constructor
    · rintro ⟨i, hi, rfl⟩; exact ⟨i, hi, (gi_get hi).symm⟩
    · rintro ⟨i, hi, rfl⟩; exact ⟨i, hi, gi_get hi⟩
  have hmin := le_minI hne
  have hmax := maxI_le hne
  refine ⟨u, cl (Grow.refl w2), (min_c (hu.grow g02) hne).mono ?_⟩
  rintro e w3 ⟨rfl, g3⟩
  have g03 := g02.trans g3
  refine ⟨_, rfl, condD (fun h => no g03 fun hc => ?_) fun hmin0 => ?_⟩
  · have := (hmin 0).2 fun x hx => by
      obtain ⟨i, hi, rfl⟩ := (hmem x).1 hx
      exact (hc.rng i hi).1
    omega
  refine ⟨u, cl g3, (max_c (hu.grow g03) hne).mono ?_⟩
  rintro e w4 ⟨rfl, g4⟩
  have g04 := g03.trans g4
  refine ⟨_, rfl, condD (fun h => no g04 fun hc => ?_) fun hmax0 => ?_⟩
  · have := (hmax 11).2 fun x hx => by
      obtain ⟨i, hi, rfl⟩ := (hmem x).1 hx
      exact (hc.rng i hi).2
    omega
  have hr : ∀ i, i < l.length → 0 ≤ gi l i ∧ gi l i ≤ 11 := fun i hi => by
    have h1 := (hmin 0).1 (by omega) _ ((hmem _).2 ⟨i, hi, rfl⟩)
    have h2 := (hmax (maxI l)).1 (by omega) _ ((hmem _).2 ⟨i, hi, rfl⟩)
    omega
  refine ⟨u, cl (g3.trans g4), hu.ln ⟨fun s t w' => ∃ k : Nat, t = k ∧ k ≤ l.length ∧ s = ((orAll (l.take k) : Nat) : Int) ∧ Grow w4 w' ∧ ∀ i j, i < k → E N i j → gi l j ≠ gi l i, fun _ t _ => l.length - t.toNat, ⟨0, rfl, by omega, rfl, Grow.refl w4, fun i j h => by omega⟩, ?_⟩⟩
  rintro - s t w5 ⟨k, rfl, hk, rfl, g5, hp⟩
  have g05 := g04.trans g5
  have hs4 : orAll (l.take k) < 4096 := orAll_take_lt fun i hi => hr i (by omega)
  refine condD (fun hlt => ?_) (fun hge => ?_)
  · have hkl : k < l.length := by omega
    refine (hu.grow g05).rd rfl hkl ?_
    rw [gi_get hkl]
    intro w6 hw6
    have g6 := alloc_grow hw6
    have hb6 := Box.new hw6
    refine ⟨⟨_, hb6.cell⟩, hb6.free, fun w7 hw7 => ?_⟩
    have hb7 := hb6.set hw7
    have f7 := set_fr hw7
    have g57 : Grow w5 w7 := g6.fr f7 fun i hi e => absurd (show i = w5.heap.size from e) (by omega)
    have g07 := g05.trans g57
    have hrk := hr k hkl
    refine ⟨_, hb7.cell, by omega, (hs.grow g07).rd rfl (by simp; omega) ?_⟩
    rw [ofN_get, nb_get]
    refine (nodes_c (hN.nb_lt' k) (hT.grow g07)).mono ?_
    rintro e w8 ⟨n8, rfl, h8, g8⟩
    have g08 := g07.trans g8
    have hask : Asks w8 (.func (.func 92) #[] #[.pointer (some ⟨w.heap.size, 0, none⟩), .pointer (some ⟨w5.heap.size, 0, none⟩)]) (ofN (els (nb N k))) (fun x => decide (gi l x.toNat = gi l k)) := by
      refine ⟨_, _, _, rfl, rfl, fun x hx w' hw' => ?_⟩
      simp only [ofN, List.mem_map, mem_els] at hx
      obtain ⟨i, ⟨hi, hb⟩, rfl⟩ := hx
      simp only [Int.toNat_natCast]
      exact col_lit_c (cl (((((g3.trans g4).trans g5).trans g57).trans g8).trans hw')) (hw'.cell (g8.cell hb7.cell)) (hu.grow (g08.trans hw')) (by rw [hlen]; exact bit_lt (hN.nb_lt k) hb)
    refine ⟨n8, rfl, (containsFunc_c h8.slI hask).mono ?_⟩
    rintro e w9 ⟨rfl, g9⟩
    have g09 := g08.trans g9
    refine ⟨_, rfl, condP_i (fun h => no g09 fun hc => ?_) fun h => ?_⟩
    · obtain ⟨x, hx, h⟩ := List.any_eq_true.1 h
      simp only [ofN, List.mem_map, mem_els] at hx
      obtain ⟨i, ⟨hi, hb⟩, rfl⟩ := hx
      exact hc.prop k i hkl hb (by simpa using h)
    · obtain ⟨c, hc⟩ : ∃ c : Nat, gi l k = (c : Int) := ⟨(gi l k).toNat, by omega⟩
      have hor : iOr .i64 ((orAll (l.take k) : Nat) : Int) (iShl .i64 1 (gi l k)) = ((orAll (l.take (k + 1)) : Nat) : Int) := by
        rw [orAll_take hkl, hc, iShl_one (by omega), iOr_nat (by omega) (p2 (by omega))]; simp
      rw [hor]
      refine ⟨by unfold inR; omega, ⟨k + 1, by omega, by omega, rfl, ((g5.trans g57).trans g8).trans g9, fun i j hi he => ?_⟩, by dsimp only; omega⟩
      by_cases e : i = k
      · subst e
        have hj12 : j < 12 := by have := he.lt hN; omega
        have := List.any_eq_false.1 h (j : Int) (List.mem_map.2 ⟨j, mem_els.2 ⟨hj12, he⟩, rfl⟩)
        simpa using this
      · exact hp i j (by omega) he
  · have hkl : k = l.length := by omega
    subst hkl
    rw [List.take_length] at hs4 ⊢
    rw [wrapU (by omega)]
    refine (ones_c hs4).mono ?_
    rintro e w6 ⟨rfl, g6⟩
    have hc : colB N l = true := colB_iff.2 ⟨hlen, hr, hp⟩
    refine ⟨_, rfl, ?_, g05.trans g6⟩
    unfold colN
    rw [hc]
    rfl
end Go.Proofs.YtmpjanpmkmlloaaDoor
