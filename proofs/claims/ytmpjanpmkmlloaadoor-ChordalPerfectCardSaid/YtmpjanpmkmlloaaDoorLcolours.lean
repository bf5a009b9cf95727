/- The law ChordalColours: its contract. -/
import Derived.Test.YtmpjanpmkmlloaaDoorCm
import Derived.Test.YtmpjanpmkmlloaaDoorLholes
namespace Go.Proofs.YtmpjanpmkmlloaaDoor
open Go Go.RowKit VC
set_option linter.unusedSimpArgs false
set_option linter.unusedVariables false

theorem colours_c {w : World} {v u : Value} {G l : List Int} (hs : SlI w v G) (hu : SlI w u l) (hT : Tab w) : Calls Tryd.prog 9 #[v, u] w (Ret w (.bool true)) := by
  refine f9_calls _ _ ?_
  have fin : ∀ {w'}, Grow w w' → Calls Tryd.prog 21 #[] w' fun e w'' => ∃ t : Bool, e = .returned (.bool t) ∧ Ret w (.bool true) (.returned (.bool t)) w'' := fun hg => (awake_c (hT.grow hg)).mono (by
    rintro e w'' ⟨rfl, g⟩
    exact ⟨_, rfl, rfl, hg.trans g⟩)
  by_cases hv : VG G
  · obtain ⟨N, rfl⟩ := VG_nat hv
    have hN : VN N := VG_ofN.1 hv
    have h12 := hN.le
    refine (of_c hs).mono ?_
    rintro e w1 ⟨v1, rfl, h1, g1⟩
    rw [take_VN hN] at h1
    refine ⟨v1, rfl, (Clique_c h1.slI hN (hT.grow g1)).mono ?_⟩
    rintro e w2 ⟨rfl, g2⟩
    have g02 := g1.trans g2
    refine ⟨_, _, rfl, (of_c (hs.grow g02)).mono ?_⟩
    rintro e w3 ⟨v3, rfl, h3, g3⟩
    have g03 := g02.trans g3
    rw [take_VN hN] at h3
    refine ⟨v3, rfl, ?_⟩
    have hcol : Calls Tryd.prog 39 #[v3] w3 fun e w' => ∃ u, e = .returned (.tuple #[u, .int .i64 (if (ordG N).isSome then 0 else 7)]) ∧ ((ordG N).isSome = true → ∃ l, cdfs N (pc (omega_ N)) N.length [] = some l ∧ SlI w' u (ofN l)) ∧ ((ordG N).isSome = false → u = .slice none 0 0) ∧ Grow w3 w' := by
      cases ho : ordG N with
      | none =>
        refine (Colours_st h3.slI hN (hT.grow g03) ho).mono ?_
        rintro e w4 ⟨rfl, g4⟩
        exact ⟨_, rfl, (fun h => by cases h), fun _ => rfl, g4⟩
      | some r =>
        obtain ⟨l, hl⟩ := perfect hN (by rw [ho]; rfl)
        refine (Colours_c h3.slI hN (hT.grow g03) (by rw [ho]; rfl) hl).mono ?_
        rintro e w4 ⟨u, rfl, hu, g4⟩
        exact ⟨u, rfl, fun _ => ⟨l, hl, hu⟩, (fun h => by cases h), g4⟩
    refine hcol.mono ?_
    rintro e w4 ⟨cu, rfl, hcu1, hcu2, g4⟩
    have g04 := g03.trans g4
    refine ⟨cu, _, rfl, (of_c (hs.grow g04)).mono ?_⟩
    rintro e w5 ⟨v5, rfl, h5, g5⟩
    have g05 := g04.trans g5
    rw [take_VN hN] at h5
    refine ⟨v5, rfl, (few_c (hu.grow g05)).mono ?_⟩
    rintro e w6 ⟨u6, rfl, h6, g6⟩
    have g06 := g05.trans g6
    refine ⟨u6, rfl, (checkColours_c (h5.slI.grow g6) h6.slI hN (hT.grow g06)).mono ?_⟩
    rintro e w7 ⟨rfl, g7⟩
    have g07 := g06.trans g7
    rw [(colN_take hN).1, (colN_take hN).2]
    refine ⟨_, _, _, rfl, (refValid_c (hs.grow g07) (b := true) (by simp [hv])).mono ?_⟩
    rintro e w8 ⟨rfl, g8⟩
    have g08 := g07.trans g8
    refine ⟨true, rfl, condF rfl ?_⟩
    refine (refColoured_c (hs.grow g08) (hu.grow g08) hN).mono ?_
    rintro e w9 ⟨rfl, g9⟩
    have g09 := g08.trans g9
    refine ⟨_, _, rfl, (refClique_c (hs.grow g09) hN).mono ?_⟩
    rintro e w10 ⟨rfl, g10⟩
    have g0 := g09.trans g10
    refine ⟨_, rfl, condF (by simp) (condF (by simp) (condF (by simp) (condF (by simp) (condF (by simp) ?_))))⟩
    refine (awake_c (hT.grow g0)).mono ?_
    rintro e w11 ⟨rfl, g11⟩
    have g011 := g0.trans g11
    refine ⟨_, rfl, condF rfl ?_⟩
    refine (is_c (hs.grow g011) hN).mono ?_
    rintro e w12 ⟨rfl, g12⟩
    have g012 := g011.trans g12
    refine ⟨_, rfl, ?_⟩
    cases ho : (ordG N).isSome with
    | false =>
      have := hcu2 ho
      subst this
      exact condT rfl ⟨_, _, _, rfl, condT (by simp) ⟨rfl, g012⟩⟩
    | true =>
      obtain ⟨l', hl', hcu⟩ := hcu1 ho
      refine condF rfl ?_
      refine (refColours_c (hs.grow g012) hN hl').mono ?_
      rintro e w13 ⟨rv, rfl, hr, g13⟩
      have g013 := g012.trans g13
      have g413 : Grow w4 w13 := (((((((g5.trans g6).trans g7).trans g8).trans g9).trans g10).trans g11).trans g12).trans g13
      refine ⟨rv, rfl, (equal_c (hcu.grow g413) hr).mono ?_⟩
      rintro e w14 ⟨rfl, g14⟩
      exact ⟨_, rfl, condT (by simp) ⟨rfl, g013.trans g14⟩⟩
  · refine (of_c hs).mono ?_
    rintro e w1 ⟨v1, rfl, h1, g1⟩
    refine ⟨v1, rfl, (Clique_no h1.slI (VG_take hv)).mono ?_⟩
    rintro e w2 ⟨rfl, g2⟩
    have g02 := g1.trans g2
    refine ⟨_, _, rfl, (of_c (hs.grow g02)).mono ?_⟩
    rintro e w3 ⟨v3, rfl, h3, g3⟩
    have g03 := g02.trans g3
    refine ⟨v3, rfl, (Colours_no h3.slI (VG_take hv)).mono ?_⟩
    rintro e w4 ⟨rfl, g4⟩
    have g04 := g03.trans g4
    refine ⟨_, _, rfl, (of_c (hs.grow g04)).mono ?_⟩
    rintro e w5 ⟨v5, rfl, h5, g5⟩
    have g05 := g04.trans g5
    refine ⟨v5, rfl, (few_c (hu.grow g05)).mono ?_⟩
    rintro e w6 ⟨u6, rfl, h6, g6⟩
    have g06 := g05.trans g6
    refine ⟨u6, rfl, (checkColours_no (h5.slI.grow g6) h6.slI (VG_take hv)).mono ?_⟩
    rintro e w7 ⟨rfl, g7⟩
    have g07 := g06.trans g7
    refine ⟨_, _, _, rfl, (refValid_c (hs.grow g07) (b := false) (by simp [hv])).mono ?_⟩
    rintro e w8 ⟨rfl, g8⟩
    have g08 := g07.trans g8
    exact ⟨false, rfl, condT rfl (condT (by simp) ⟨_, _, _, rfl, condT (by simp) (condT (by simp) (condT (by simp) (condT (by simp) (condT (by simp) (condT (by simp) (fin g08))))))⟩)⟩
end Go.Proofs.YtmpjanpmkmlloaaDoor
