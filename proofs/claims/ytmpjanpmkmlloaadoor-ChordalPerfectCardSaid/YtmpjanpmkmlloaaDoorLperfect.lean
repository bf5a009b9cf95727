/- The law ChordalPerfect: its contract. -/
import Derived.Test.YtmpjanpmkmlloaaDoorCy
import Derived.Test.YtmpjanpmkmlloaaDoorGp
import Derived.Test.YtmpjanpmkmlloaaDoorLcolours
namespace Go.Proofs.YtmpjanpmkmlloaaDoor
open Go Go.RowKit VC
set_option linter.unusedSimpArgs false
set_option linter.unusedVariables false

theorem perfect_law {w : World} {v u : Value} {G l : List Int} (hs : SlI w v G) (hu : SlI w u l) (hT : Tab w) : Calls Tryd.prog 15 #[v, u] w (Ret w (.bool true)) := by
  refine f15_calls _ _ ?_
  have fin : ∀ {w'}, Grow w w' → Calls Tryd.prog 21 #[] w' fun e w'' => ∃ t : Bool, e = .returned (.bool t) ∧ Ret w (.bool true) (.returned (.bool t)) w'' := fun hg => (awake_c (hT.grow hg)).mono (by
    rintro e w'' ⟨rfl, g⟩
    exact ⟨_, rfl, rfl, hg.trans g⟩)
  by_cases hv : VG G
  · obtain ⟨N, rfl⟩ := VG_nat hv
    have hN : VN N := VG_ofN.1 hv
    have h12 := hN.le
    have hp := hN.pow
    have h0 : 0 < 2 ^ N.length := Nat.pow_pos (by omega)
    have hom : omega_ N < 4096 := by have : omega_ N < 2 ^ N.length := bestN_lt h0; omega
    have hal : alpha_ N < 4096 := by have : alpha_ N < 2 ^ N.length := bestN_lt h0; omega
    refine (of_c hs).mono ?_
    rintro e w1 ⟨v1, rfl, h1, g1⟩
    rw [take_VN hN] at h1
    refine ⟨v1, rfl, (Clique_c h1.slI hN (hT.grow g1)).mono ?_⟩
    rintro e w2 ⟨rfl, g2⟩
    have g02 := g1.trans g2
    refine ⟨_, _, rfl, (of_c (hs.grow g02)).mono ?_⟩
    rintro e w3 ⟨v3, rfl, h3, g3⟩
    have g03 := g02.trans g3
    rw [take_VN hN] at h3
    refine ⟨v3, rfl, (Independent_c h3.slI hN (hT.grow g03)).mono ?_⟩
    rintro e w4 ⟨rfl, g4⟩
    have g04 := g03.trans g4
    refine ⟨_, _, rfl, (of_c (hs.grow g04)).mono ?_⟩
    rintro e w5 ⟨v5, rfl, h5, g5⟩
    have g05 := g04.trans g5
    rw [take_VN hN] at h5
    refine ⟨v5, rfl, ?_⟩
    have hcol : Calls Tryd.prog 39 #[v5] w5 fun e w' => ∃ u, e = .returned (.tuple #[u, .int .i64 (if (ordG N).isSome then 0 else 7)]) ∧ ((ordG N).isSome = true → ∃ l, cdfs N (pc (omega_ N)) N.length [] = some l ∧ SlI w' u (ofN l)) ∧ Grow w5 w' := by
      cases ho : ordG N with
      | none =>
        refine (Colours_st h5.slI hN (hT.grow g05) ho).mono ?_
        rintro e w4 ⟨rfl, g4⟩
        exact ⟨_, rfl, (fun h => by cases h), g4⟩
      | some r =>
        obtain ⟨l, hl⟩ := perfect hN (by rw [ho]; rfl)
        refine (Colours_c h5.slI hN (hT.grow g05) (by rw [ho]; rfl) hl).mono ?_
        rintro e w4 ⟨u, rfl, hu, g4⟩
        exact ⟨u, rfl, fun _ => ⟨l, hl, hu⟩, g4⟩
    refine hcol.mono ?_
    rintro e w6 ⟨cu, rfl, hcu, g6⟩
    have g06 := g05.trans g6
    refine ⟨cu, _, rfl, (of_c (hs.grow g06)).mono ?_⟩
    rintro e w7 ⟨v7, rfl, h7, g7⟩
    have g07 := g06.trans g7
    rw [take_VN hN] at h7
    refine ⟨v7, rfl, ?_⟩
    have hcov : Calls Tryd.prog 56 #[v7] w7 fun e w' => ∃ u, e = .returned (.tuple #[u, .int .i64 (if (ordG N).isSome then 0 else 7)]) ∧ ((ordG N).isSome = true → ∃ cs, SlI w' u (ofN cs) ∧ cs.length = pc (alpha_ N)) ∧ Grow w7 w' := by
      cases ho : (ordG N).isSome with
      | false =>
        refine (Cover_none h7.slI hN (hT.grow g07) ho).mono ?_
        rintro e w4 ⟨rfl, g4⟩
        exact ⟨_, rfl, (fun h => by cases h), g4⟩
      | true =>
        refine (Cover_c h7.slI hN (hT.grow g07) ho).mono ?_
        rintro e w4 ⟨u, cs, rfl, hu, hp, hpw, -, hl, g4⟩
        exact ⟨u, rfl, fun _ => ⟨cs, hu, hl⟩, g4⟩
    refine hcov.mono ?_
    rintro e w8 ⟨vu, rfl, hvu, g8⟩
    have g08 := g07.trans g8
    refine ⟨vu, _, rfl, (of_c (hs.grow g08)).mono ?_⟩
    rintro e w9 ⟨v9, rfl, h9, g9⟩
    have g09 := g08.trans g9
    rw [take_VN hN] at h9
    refine ⟨v9, rfl, (few_c (hu.grow g09)).mono ?_⟩
    rintro e w10 ⟨u10, rfl, h10, g10⟩
    have g010 := g09.trans g10
    refine ⟨u10, rfl, (checkColours_c (h9.slI.grow g10) h10.slI hN (hT.grow g010)).mono ?_⟩
    rintro e w11 ⟨rfl, g11⟩
    have g011 := g010.trans g11
    rw [(colN_take hN).1, (colN_take hN).2]
    have g611 : Grow w6 w11 := ((((g7.trans g8).trans g9).trans g10).trans g11)
    have g811 : Grow w8 w11 := ((g9.trans g10).trans g11)
    have cnt : ∀ {w'}, Calls Tryd.prog 60 #[.int .i64 ((omega_ N : Nat) : Int)] w' (Ret w' (.int .i64 (pc (omega_ N) : Int))) := count_c hom
    have tail : ∀ {w'}, Grow w11 w' → condP (!decide ((if (ordG N).isSome then 0 else 7 : Int) = (0 : Int)))
        (condP (decide ((if (ordG N).isSome then 0 else 7 : Int) = (7 : Int))) (Calls Tryd.prog 21 #[] w' fun e w'' => ∃ t : Bool, e = .returned (.bool t) ∧ Ret w (.bool true) (.returned (.bool t)) w'') (Ret w (.bool true) (.returned (.bool false)) w'))
        (Calls Tryd.prog 17 #[v] w' fun e w1 => ∃ x, e = .returned x ∧ Calls Tryd.prog 40 #[x, cu] w1 fun e w2 => ∃ (a : Int) (b : Bool) (c : Int), e = .returned (.tuple #[.int .i64 a, .bool b, .int .i64 c]) ∧
          condP b (condP (decide (c = (0 : Int))) (Calls Tryd.prog 60 #[.int .i64 ((omega_ N : Nat) : Int)] w2 fun e w3 => ∃ n : Int, e = .returned (.int .i64 n) ∧ condP (decide (a = (n : Int))) (∃ (x : Option Addr) (n c : Nat), vu = .slice x n c ∧ Calls Tryd.prog 60 #[.int .i64 ((alpha_ N : Nat) : Int)] w3 fun e w4 => ∃ m : Int, e = .returned (.int .i64 m) ∧ condP (decide ((n : Int) = (m : Int))) (Calls Tryd.prog 21 #[] w4 fun e w'' => ∃ t : Bool, e = .returned (.bool t) ∧ Ret w (.bool true) (.returned (.bool t)) w'') (Ret w (.bool true) (.returned (.bool false)) w4)) (Ret w (.bool true) (.returned (.bool false)) w3)) (Ret w (.bool true) (.returned (.bool false)) w2)) (Ret w (.bool true) (.returned (.bool false)) w2)) := by
      intro w12 g12
      have g012 := g011.trans g12
      cases ho : (ordG N).isSome with
      | false => exact cT (by simp) (cT (by simp) (fin g012))
      | true =>
        obtain ⟨l', hl', hcu'⟩ := hcu ho
        obtain ⟨cs, hvu', hcl⟩ := hvu ho
        obtain ⟨hb, hn⟩ := found_col hN hl'
        refine cF (by simp) ((of_c (hs.grow g012)).mono ?_)
        rintro e w13 ⟨v13, rfl, h13, g13⟩
        have g013 := g012.trans g13
        rw [take_VN hN] at h13
        refine ⟨v13, rfl, (checkColours_c h13.slI (hcu'.grow ((g611.trans g12).trans g13)) hN (hT.grow g013)).mono ?_⟩
        rintro e w14 ⟨rfl, g14⟩
        have g014 := g013.trans g14
        refine ⟨_, _, _, rfl, cT hb (cT (by simp) (cnt.mono ?_))⟩
        rintro e w15 ⟨rfl, g15⟩
        have g015 := g014.trans g15
        refine ⟨_, rfl, cT (decide_eq_true (by rw [hn]; rfl)) ((hvu'.grow ((((g811.trans g12).trans g13).trans g14).trans g15)).ln ((count_c hal).mono ?_))⟩
        rintro e w16 ⟨rfl, g16⟩
        exact ⟨_, rfl, cT (by simp [hcl]) (fin (g015.trans g16))⟩
    refine ⟨_, _, _, rfl, cF (by simp) (cF (by simp) (cF (by simp) (cF (by simp) (condP_i (fun hb => ?_) fun _ => tail (Grow.refl _)))))⟩
    refine cnt.mono ?_
    rintro e w12 ⟨rfl, g12⟩
    refine ⟨_, rfl, cF (decide_eq_false ?_) (tail g12)⟩
    have := col_least hN (colB_iff.1 hb)
    unfold colN
    rw [if_pos hb]
    have e : omega_ N = omg N := rfl
    rw [e]; omega
  · refine (of_c hs).mono ?_
    rintro e w1 ⟨v1, rfl, h1, g1⟩
    refine ⟨v1, rfl, (Clique_no h1.slI (VG_take hv)).mono ?_⟩
    rintro e w2 ⟨rfl, g2⟩
    have g02 := g1.trans g2
    refine ⟨_, _, rfl, (of_c (hs.grow g02)).mono ?_⟩
    rintro e w3 ⟨v3, rfl, h3, g3⟩
    have g03 := g02.trans g3
    refine ⟨v3, rfl, (Independent_no h3.slI (VG_take hv)).mono ?_⟩
    rintro e w4 ⟨rfl, g4⟩
    have g04 := g03.trans g4
    refine ⟨_, _, rfl, (of_c (hs.grow g04)).mono ?_⟩
    rintro e w5 ⟨v5, rfl, h5, g5⟩
    have g05 := g04.trans g5
    refine ⟨v5, rfl, (Colours_no h5.slI (VG_take hv)).mono ?_⟩
    rintro e w6 ⟨rfl, g6⟩
    have g06 := g05.trans g6
    refine ⟨_, _, rfl, (of_c (hs.grow g06)).mono ?_⟩
    rintro e w7 ⟨v7, rfl, h7, g7⟩
    have g07 := g06.trans g7
    refine ⟨v7, rfl, (Cover_no h7.slI (VG_take hv)).mono ?_⟩
    rintro e w8 ⟨rfl, g8⟩
    have g08 := g07.trans g8
    refine ⟨_, _, rfl, (of_c (hs.grow g08)).mono ?_⟩
    rintro e w9 ⟨v9, rfl, h9, g9⟩
    have g09 := g08.trans g9
    refine ⟨v9, rfl, (few_c (hu.grow g09)).mono ?_⟩
    rintro e w10 ⟨u10, rfl, h10, g10⟩
    have g010 := g09.trans g10
    refine ⟨u10, rfl, (checkColours_no (h9.slI.grow g10) h10.slI (VG_take hv)).mono ?_⟩
    rintro e w11 ⟨rfl, g11⟩
    have g011 := g010.trans g11
    exact ⟨_, _, _, rfl, cT (by simp) (cT (by simp) (cT (by simp) (cT (by simp) (cT (by simp) (cT (by simp) (fin g011))))))⟩
end Go.Proofs.YtmpjanpmkmlloaaDoor
