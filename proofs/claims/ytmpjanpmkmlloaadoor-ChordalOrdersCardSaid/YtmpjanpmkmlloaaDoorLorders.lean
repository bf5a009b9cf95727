/- The law ChordalOrders: its contract. -/
import Derived.Test.YtmpjanpmkmlloaaDoorCd
namespace Go.Proofs.YtmpjanpmkmlloaaDoor
open Go Go.RowKit VC
set_option linter.unusedSimpArgs false
set_option linter.unusedVariables false

theorem orders_c {w : World} {v u : Value} {G l : List Int} (hs : SlI w v G) (hu : SlI w u l) (hT : Tab w) : Calls Tryd.prog 3 #[v, u] w (Ret w (.bool true)) := by
  refine f3_calls _ _ ?_
  by_cases hv : VG G
  · obtain ⟨N, rfl⟩ := VG_nat hv
    have hN : VN N := VG_ofN.1 hv
    refine (of_c hs).mono ?_
    rintro e w1 ⟨v1, rfl, h1, g1⟩
    rw [take_VN hN] at h1
    refine ⟨v1, rfl, (Order_c h1.slI hN (hT.grow g1)).mono ?_⟩
    rintro e w2 ⟨o, rfl, h2, g2⟩
    have g02 := g1.trans g2
    refine ⟨o, _, rfl, (of_c (hs.grow g02)).mono ?_⟩
    rintro e w3 ⟨v3, rfl, h3, g3⟩
    have g03 := g02.trans g3
    rw [take_VN hN] at h3
    refine ⟨v3, rfl, (few_c (hu.grow g03)).mono ?_⟩
    rintro e w4 ⟨u4, rfl, h4, g4⟩
    have g04 := g03.trans g4
    refine ⟨u4, rfl, (checkOrder_c (h3.slI.grow g4) h4.slI hN (hT.grow g04)).mono ?_⟩
    rintro e w5 ⟨rfl, g5⟩
    have g05 := g04.trans g5
    refine ⟨_, _, rfl, (refValid_c (hs.grow g05) (b := true) (by simp [hv])).mono ?_⟩
    rintro e w6 ⟨rfl, g6⟩
    have g06 := g05.trans g6
    refine ⟨true, rfl, ?_⟩
    show Calls _ _ _ _ _
    refine (refOrder_c (hs.grow g06) hN).mono ?_
    rintro e w7 ⟨o7, rfl, h7, g7⟩
    have g07 := g06.trans g7
    refine ⟨o7, _, rfl, (equal_c (h2.slI.grow ((((g3.trans g4).trans g5).trans g6).trans g7)) h7.slI).mono ?_⟩
    rintro e w8 ⟨rfl, g8⟩
    have g08 := g07.trans g8
    refine ⟨_, rfl, condP_i (fun _ => condD (fun _ => ?_) fun h => absurd rfl h) fun h => by simp at h⟩
    refine (refEliminates_c (hs.grow g08) (hu.grow g08) hN).mono ?_
    rintro e w9 ⟨rfl, g9⟩
    have g09 := g08.trans g9
    refine ⟨_, rfl, condP_i (fun _ => condD (fun _ => ?_) fun h => absurd rfl h) fun h => by rw [check_eq hN] at h; simp at h⟩
    refine (awake_c (hT.grow g09)).mono ?_
    rintro e w10 ⟨rfl, g10⟩
    exact ⟨_, rfl, rfl, g09.trans g10⟩
  · refine (of_c hs).mono ?_
    rintro e w1 ⟨v1, rfl, h1, g1⟩
    refine ⟨v1, rfl, (Order_no h1.slI (VG_take hv)).mono ?_⟩
    rintro e w2 ⟨rfl, g2⟩
    have g02 := g1.trans g2
    refine ⟨_, _, rfl, (of_c (hs.grow g02)).mono ?_⟩
    rintro e w3 ⟨v3, rfl, h3, g3⟩
    have g03 := g02.trans g3
    refine ⟨v3, rfl, (few_c (hu.grow g03)).mono ?_⟩
    rintro e w4 ⟨u4, rfl, h4, g4⟩
    have g04 := g03.trans g4
    refine ⟨u4, rfl, (checkOrder_no (h3.slI.grow g4) (VG_take hv)).mono ?_⟩
    rintro e w5 ⟨rfl, g5⟩
    have g05 := g04.trans g5
    refine ⟨_, _, rfl, (refValid_c (hs.grow g05) (b := false) (by simp [hv])).mono ?_⟩
    rintro e w6 ⟨rfl, g6⟩
    have g06 := g05.trans g6
    refine ⟨false, rfl, ?_⟩
    refine ⟨_, _, _, rfl, ?_⟩
    refine (awake_c (hT.grow g06)).mono ?_
    rintro e w10 ⟨rfl, g10⟩
    exact ⟨_, rfl, rfl, g06.trans g10⟩
end Go.Proofs.YtmpjanpmkmlloaaDoor
