/- The laws ChordalTrees and ChordalFew: their contracts. -/
import Derived.Test.YtmpjanpmkmlloaaDoorCw
import Derived.Test.YtmpjanpmkmlloaaDoorCx
import Derived.Test.YtmpjanpmkmlloaaDoorCl
namespace Go.Proofs.YtmpjanpmkmlloaaDoor
open Go Go.RowKit VC
set_option linter.unusedSimpArgs false
set_option linter.unusedVariables false

theorem trees_c {w : World} {v u : Value} {G l : List Int} (hs : SlI w v G) (hu : SlI w u l) (hT : Tab w) : Calls Tryd.prog 11 #[v, u] w (Ret w (.bool true)) := by
  refine f11_calls _ _ ?_
  have fin : ∀ {w'}, Grow w w' → Calls Tryd.prog 21 #[] w' fun e w'' => ∃ t : Bool, e = .returned (.bool t) ∧ Ret w (.bool true) (.returned (.bool t)) w'' := fun hg => (awake_c (hT.grow hg)).mono (by
    rintro e w'' ⟨rfl, g⟩
    exact ⟨_, rfl, rfl, hg.trans g⟩)
  refine (of_c hs).mono ?_
  rintro e w1 ⟨v1, rfl, h1, g1⟩
  refine ⟨v1, rfl, ?_⟩
  by_cases hv : VG G
  · obtain ⟨N, rfl⟩ := VG_nat hv
    have hN : VN N := VG_ofN.1 hv
    rw [take_VN hN] at h1
    refine (Cliques_c h1.slI hN (hT.grow g1)).mono ?_
    rintro e w2 ⟨a, rfl, ha, g2⟩
    have g02 := g1.trans g2
    refine ⟨_, _, rfl, (of_c (hs.grow g02)).mono ?_⟩
    rintro e w3 ⟨v3, rfl, h3, g3⟩
    have g03 := g02.trans g3
    rw [take_VN hN] at h3
    refine ⟨v3, rfl, ?_⟩
    cases ho : (ordG N).isSome with
    | true =>
      refine (Tree_c h3.slI hN (hT.grow g03) ho).mono ?_
      rintro e w4 ⟨t, tl, rfl, ht, htree, g4⟩
      have g04 := g03.trans g4
      refine ⟨_, _, rfl, (of_c (hs.grow g04)).mono ?_⟩
      rintro e w5 ⟨v5, rfl, h5, g5⟩
      have g05 := g04.trans g5
      rw [take_VN hN] at h5
      refine ⟨v5, rfl, (few_c (hu.grow g05)).mono ?_⟩
      rintro e w6 ⟨u6, rfl, h6, g6⟩
      have g06 := g05.trans g6
      open Classical in
      refine ⟨u6, rfl, (checkTree_c (b := decide (TreeP N (l.take 14))) (h5.slI.grow g6) h6.slI hN (hT.grow g06) ho (by simp)).mono ?_⟩
      rintro e w7 ⟨rfl, g7⟩
      have g07 := g06.trans g7
      refine ⟨_, _, rfl, (refValid_c (hs.grow g07) (b := true) (by simp [hv])).mono ?_⟩
      rintro e w8 ⟨rfl, g8⟩
      have g08 := g07.trans g8
      refine ⟨true, rfl, cF rfl ((refCliques_c (hs.grow g08) hN).mono ?_)⟩
      rintro e w9 ⟨q, rfl, hq, g9⟩
      have g09 := g08.trans g9
      have g29 := ((((((g3.trans g4).trans g5).trans g6).trans g7).trans g8).trans g9)
      refine ⟨q, rfl, (equal_c (ha.slI.grow g29) hq.slI).mono ?_⟩
      rintro e w10 ⟨rfl, g10⟩
      have g010 := g09.trans g10
      refine ⟨_, rfl, cF (by simp) (cF (by simp) ((is_c (hs.grow g010) hN).mono ?_))⟩
      rintro e w11 ⟨rfl, g11⟩
      have g011 := g010.trans g11
      have g411 := ((((((g5.trans g6).trans g7).trans g8).trans g9).trans g10).trans g11)
      rw [ho]
      refine ⟨true, rfl, cF rfl (cT (by simp) ((refTree_c (b := true) (hs.grow g011) (ht.grow g411) hN ho (by simp [htree])).mono ?_))⟩
      rintro e w12 ⟨rfl, g12⟩
      have g012 := g011.trans g12
      open Classical in
      refine ⟨true, rfl, cT rfl ((refTree_c (b := decide (TreeP N l)) (hs.grow g012) (hu.grow g012) hN ho (by simp)).mono ?_)⟩
      rintro e w13 ⟨rfl, g13⟩
      exact ⟨_, rfl, cT (by simp [TreeP.take hN ho]) (cT (by simp) (fin (g012.trans g13)))⟩
    | false =>
      refine (Tree_none h3.slI hN (hT.grow g03) ho).mono ?_
      rintro e w4 ⟨rfl, g4⟩
      have g04 := g03.trans g4
      refine ⟨_, _, rfl, (of_c (hs.grow g04)).mono ?_⟩
      rintro e w5 ⟨v5, rfl, h5, g5⟩
      have g05 := g04.trans g5
      rw [take_VN hN] at h5
      refine ⟨v5, rfl, (few_c (hu.grow g05)).mono ?_⟩
      rintro e w6 ⟨u6, rfl, h6, g6⟩
      have g06 := g05.trans g6
      refine ⟨u6, rfl, (checkTree_none (h5.slI.grow g6) hN (hT.grow g06) ho).mono ?_⟩
      rintro e w7 ⟨rfl, g7⟩
      have g07 := g06.trans g7
      refine ⟨_, _, rfl, (refValid_c (hs.grow g07) (b := true) (by simp [hv])).mono ?_⟩
      rintro e w8 ⟨rfl, g8⟩
      have g08 := g07.trans g8
      refine ⟨true, rfl, cF rfl ((refCliques_c (hs.grow g08) hN).mono ?_)⟩
      rintro e w9 ⟨q, rfl, hq, g9⟩
      have g09 := g08.trans g9
      have g29 := ((((((g3.trans g4).trans g5).trans g6).trans g7).trans g8).trans g9)
      refine ⟨q, rfl, (equal_c (ha.slI.grow g29) hq.slI).mono ?_⟩
      rintro e w10 ⟨rfl, g10⟩
      have g010 := g09.trans g10
      refine ⟨_, rfl, cF (by simp) (cF (by simp) ((is_c (hs.grow g010) hN).mono ?_))⟩
      rintro e w11 ⟨rfl, g11⟩
      rw [ho]
      exact ⟨false, rfl, cT rfl ⟨none, 0, 0, rfl, cT (by simp) (cT rfl (cT (by simp) (cT (by simp) (fin (g010.trans g11)))))⟩⟩
  · refine (Cliques_no h1.slI (VG_take hv)).mono ?_
    rintro e w2 ⟨rfl, g2⟩
    have g02 := g1.trans g2
    refine ⟨_, _, rfl, (of_c (hs.grow g02)).mono ?_⟩
    rintro e w3 ⟨v3, rfl, h3, g3⟩
    have g03 := g02.trans g3
    refine ⟨v3, rfl, (Tree_no h3.slI (VG_take hv)).mono ?_⟩
    rintro e w4 ⟨rfl, g4⟩
    have g04 := g03.trans g4
    refine ⟨_, _, rfl, (of_c (hs.grow g04)).mono ?_⟩
    rintro e w5 ⟨v5, rfl, h5, g5⟩
    have g05 := g04.trans g5
    refine ⟨v5, rfl, (few_c (hu.grow g05)).mono ?_⟩
    rintro e w6 ⟨u6, rfl, h6, g6⟩
    have g06 := g05.trans g6
    refine ⟨u6, rfl, (checkTree_no (h5.slI.grow g6) (VG_take hv)).mono ?_⟩
    rintro e w7 ⟨rfl, g7⟩
    have g07 := g06.trans g7
    refine ⟨_, _, rfl, (refValid_c (hs.grow g07) (b := false) (by simp [hv])).mono ?_⟩
    rintro e w8 ⟨rfl, g8⟩
    exact ⟨false, rfl, cT rfl ⟨none, 0, 0, rfl, none, 0, 0, rfl, by unfold inR; omega, cT (by simp) (cT rfl (cT (by simp) (cT (by simp) (cT (by simp) (fin (g07.trans g8))))))⟩⟩
theorem few_law {w : World} {v u : Value} {G l : List Int} (hs : SlI w v G) (hu : SlI w u l) (hT : Tab w) : Calls Tryd.prog 12 #[v, u] w (Ret w (.bool true)) := by
  refine f12_calls _ _ ?_
  have fin : ∀ {w'}, Grow w w' → Calls Tryd.prog 21 #[] w' fun e w'' => ∃ t : Bool, e = .returned (.bool t) ∧ Ret w (.bool true) (.returned (.bool t)) w'' := fun hg => (awake_c (hT.grow hg)).mono (by
    rintro e w'' ⟨rfl, g⟩
    exact ⟨_, rfl, rfl, hg.trans g⟩)
  refine (of_c hs).mono ?_
  rintro e w1 ⟨v1, rfl, h1, g1⟩
  refine ⟨v1, rfl, ?_⟩
  by_cases hv : VG G
  · obtain ⟨N, rfl⟩ := VG_nat hv
    have hN : VN N := VG_ofN.1 hv
    rw [take_VN hN] at h1
    refine (Cliques_c h1.slI hN (hT.grow g1)).mono ?_
    rintro e w2 ⟨a, rfl, ha, g2⟩
    have g02 := g1.trans g2
    refine ⟨_, _, rfl, (of_c (hs.grow g02)).mono ?_⟩
    rintro e w3 ⟨v3, rfl, h3, g3⟩
    have g03 := g02.trans g3
    rw [take_VN hN] at h3
    refine ⟨v3, rfl, ?_⟩
    cases ho : (ordG N).isSome with
    | true =>
      have hfew := mcl_few hN ho
      refine (Tree_c h3.slI hN (hT.grow g03) ho).mono ?_
      rintro e w4 ⟨t, tl, rfl, ht, htree, g4⟩
      have g04 := g03.trans g4
      refine ⟨_, _, rfl, (of_c (hs.grow g04)).mono ?_⟩
      rintro e w5 ⟨v5, rfl, h5, g5⟩
      have g05 := g04.trans g5
      rw [take_VN hN] at h5
      refine ⟨v5, rfl, (few_c (hu.grow g05)).mono ?_⟩
      rintro e w6 ⟨u6, rfl, h6, g6⟩
      have g06 := g05.trans g6
      open Classical in
      refine ⟨u6, rfl, (checkTree_c (b := decide (TreeP N (l.take 14))) (h5.slI.grow g6) h6.slI hN (hT.grow g06) ho (by simp)).mono ?_⟩
      rintro e w7 ⟨rfl, g7⟩
      have g07 := g06.trans g7
      refine ⟨_, _, rfl, cF (by simp) (cF (by simp) ((of_c (hs.grow g07)).mono ?_))⟩
      rintro e w8 ⟨v8, rfl, h8, g8⟩
      have g08 := g07.trans g8
      rw [take_VN hN] at h8
      have g48 := (((g5.trans g6).trans g7).trans g8)
      refine ⟨v8, rfl, (checkTree_c (b := true) h8.slI (ht.grow g48) hN (hT.grow g08) ho (by simp [htree])).mono ?_⟩
      rintro e w9 ⟨rfl, g9⟩
      have g09 := g08.trans g9
      have ha9 := ha.slI.grow ((((((g3.trans g4).trans g5).trans g6).trans g7).trans g8).trans g9)
      have ht9 := ht.grow (g48.trans g9)
      have hfin := fin g09
      refine ⟨_, _, rfl, cT rfl (cT (by simp) (cT (by simp) (ha9.ln ((hs.grow g09).ln (cT (by simp; omega) (ht9.ln (ha9.ln (cT (by simp [htree.len]) (condP_i (fun _ => hfin) fun hb => (hu.grow g09).ln (ha9.ln (cT ?_ hfin)))))))))))⟩
      have hP : TreeP N l := (TreeP.take hN ho).1 (by simpa using hb)
      simp [hP.len]
    | false =>
      refine (Tree_none h3.slI hN (hT.grow g03) ho).mono ?_
      rintro e w4 ⟨rfl, g4⟩
      have g04 := g03.trans g4
      refine ⟨_, _, rfl, (of_c (hs.grow g04)).mono ?_⟩
      rintro e w5 ⟨v5, rfl, h5, g5⟩
      have g05 := g04.trans g5
      rw [take_VN hN] at h5
      refine ⟨v5, rfl, (few_c (hu.grow g05)).mono ?_⟩
      rintro e w6 ⟨u6, rfl, h6, g6⟩
      have g06 := g05.trans g6
      refine ⟨u6, rfl, (checkTree_none (h5.slI.grow g6) hN (hT.grow g06) ho).mono ?_⟩
      rintro e w7 ⟨rfl, g7⟩
      exact ⟨_, _, rfl, cF (by simp) (cT (by simp) (cT (by simp) (cT (by simp) (fin (g06.trans g7)))))⟩
  · refine (Cliques_no h1.slI (VG_take hv)).mono ?_
    rintro e w2 ⟨rfl, g2⟩
    have g02 := g1.trans g2
    refine ⟨_, _, rfl, (of_c (hs.grow g02)).mono ?_⟩
    rintro e w3 ⟨v3, rfl, h3, g3⟩
    have g03 := g02.trans g3
    refine ⟨v3, rfl, (Tree_no h3.slI (VG_take hv)).mono ?_⟩
    rintro e w4 ⟨rfl, g4⟩
    have g04 := g03.trans g4
    refine ⟨_, _, rfl, (of_c (hs.grow g04)).mono ?_⟩
    rintro e w5 ⟨v5, rfl, h5, g5⟩
    have g05 := g04.trans g5
    refine ⟨v5, rfl, (few_c (hu.grow g05)).mono ?_⟩
    rintro e w6 ⟨u6, rfl, h6, g6⟩
    have g06 := g05.trans g6
    refine ⟨u6, rfl, (checkTree_no (h5.slI.grow g6) (VG_take hv)).mono ?_⟩
    rintro e w7 ⟨rfl, g7⟩
    exact ⟨_, _, rfl, cT (by simp) (cT (by simp) (cT (by simp) (cT (by simp) (fin (g06.trans g7)))))⟩
end Go.Proofs.YtmpjanpmkmlloaaDoor
