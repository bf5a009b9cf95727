/- The law ChordalCovers: its contract. -/
import Derived.Test.YtmpjanpmkmlloaaDoorCy
import Derived.Test.YtmpjanpmkmlloaaDoorLholes
namespace Go.Proofs.YtmpjanpmkmlloaaDoor
open Go Go.RowKit VC
set_option linter.unusedSimpArgs false
set_option linter.unusedVariables false

theorem covers_law {w : World} {v : Value} {G : List Int} (hs : SlI w v G) (hT : Tab w) : Calls Tryd.prog 14 #[v] w (Ret w (.bool true)) := by
  refine f14_calls _ ?_
  have fin : ∀ {w'}, Grow w w' → Calls Tryd.prog 21 #[] w' fun e w'' => ∃ t : Bool, e = .returned (.bool t) ∧ Ret w (.bool true) (.returned (.bool t)) w'' := fun hg => (awake_c (hT.grow hg)).mono (by
    rintro e w'' ⟨rfl, g⟩
    exact ⟨_, rfl, rfl, hg.trans g⟩)
  by_cases hv : VG G
  · obtain ⟨N, rfl⟩ := VG_nat hv
    have hN : VN N := VG_ofN.1 hv
    have h12 := hN.le
    refine (of_c hs).mono ?_
    rintro e w1 ⟨v1, rfl, h1, g1⟩
    rw [take_VN hN] at h1
    refine ⟨v1, rfl, (Independent_c h1.slI hN (hT.grow g1)).mono ?_⟩
    rintro e w2 ⟨rfl, g2⟩
    have g02 := g1.trans g2
    refine ⟨_, _, rfl, (of_c (hs.grow g02)).mono ?_⟩
    rintro e w3 ⟨v3, rfl, h3, g3⟩
    have g03 := g02.trans g3
    rw [take_VN hN] at h3
    refine ⟨v3, rfl, ?_⟩
    have hcol : Calls Tryd.prog 56 #[v3] w3 fun e w' => ∃ u, e = .returned (.tuple #[u, .int .i64 (if (ordG N).isSome then 0 else 7)]) ∧ ((ordG N).isSome = true → ∃ cs, SlI w' u (ofN cs) ∧ Parts N (al N) cs ∧ cs.Pairwise (· < ·) ∧ cs.length = mcv N (al N)) ∧ ((ordG N).isSome = false → u = .slice none 0 0) ∧ Grow w3 w' := by
      cases ho : (ordG N).isSome with
      | false =>
        refine (Cover_none h3.slI hN (hT.grow g03) ho).mono ?_
        rintro e w4 ⟨rfl, g4⟩
        exact ⟨_, rfl, (fun h => by cases h), fun _ => rfl, g4⟩
      | true =>
        refine (Cover_c h3.slI hN (hT.grow g03) ho).mono ?_
        rintro e w4 ⟨u, cs, rfl, hu, hp, hpw, hl, -, g4⟩
        exact ⟨u, rfl, fun _ => ⟨cs, hu, hp, hpw, hl⟩, (fun h => by cases h), g4⟩
    refine hcol.mono ?_
    rintro e w4 ⟨cu, rfl, hcu1, hcu2, g4⟩
    have g04 := g03.trans g4
    refine ⟨cu, _, rfl, (refValid_c (hs.grow g04) (b := true) (by simp [hv])).mono ?_⟩
    rintro e w8 ⟨rfl, g8⟩
    have g08 := g04.trans g8
    refine ⟨true, rfl, condF rfl ?_⟩
    refine (refIndependent_c (hs.grow g08) hN).mono ?_
    rintro e w9 ⟨rfl, g9⟩
    have g09 := g08.trans g9
    refine ⟨_, rfl, condF (by simp) (condF (by simp) ?_)⟩
    refine (is_c (hs.grow g09) hN).mono ?_
    rintro e w12 ⟨rfl, g12⟩
    have g012 := g09.trans g12
    refine ⟨_, rfl, ?_⟩
    cases ho : (ordG N).isSome with
    | false =>
      have := hcu2 ho
      subst this
      exact condT rfl ⟨_, _, _, rfl, condT (by simp) (condT (by simp) (fin g012))⟩
    | true =>
      obtain ⟨cs, hcu, hp, hpw, hl⟩ := hcu1 ho
      refine condF rfl (condT (by simp) ?_)
      have g412 : Grow w4 w12 := (g8.trans g9).trans g12
      refine (covers_c (hs.grow g012) (hcu.grow g412) hN hp hpw).mono ?_
      rintro e w13 ⟨rfl, g13⟩
      have g013 := g012.trans g13
      refine ⟨_, rfl, condT rfl ((hcu.grow (g412.trans g13)).ln ((refCover_c (hs.grow g013) hN).mono ?_))⟩
      rintro e w14 ⟨rfl, g14⟩
      refine ⟨_, rfl, condT (by simp [hl]) (fin (g013.trans g14))⟩
  · refine (of_c hs).mono ?_
    rintro e w1 ⟨v1, rfl, h1, g1⟩
    refine ⟨v1, rfl, (Independent_no h1.slI (VG_take hv)).mono ?_⟩
    rintro e w2 ⟨rfl, g2⟩
    have g02 := g1.trans g2
    refine ⟨_, _, rfl, (of_c (hs.grow g02)).mono ?_⟩
    rintro e w3 ⟨v3, rfl, h3, g3⟩
    have g03 := g02.trans g3
    refine ⟨v3, rfl, (Cover_no h3.slI (VG_take hv)).mono ?_⟩
    rintro e w4 ⟨rfl, g4⟩
    have g04 := g03.trans g4
    refine ⟨_, _, rfl, (refValid_c (hs.grow g04) (b := false) (by simp [hv])).mono ?_⟩
    rintro e w8 ⟨rfl, g8⟩
    have g08 := g04.trans g8
    exact ⟨false, rfl, condT rfl (condT (by simp) ⟨_, _, _, rfl, condT (by simp) (condT (by simp) (condT (by simp) (fin g08)))⟩)⟩
end Go.Proofs.YtmpjanpmkmlloaaDoor
