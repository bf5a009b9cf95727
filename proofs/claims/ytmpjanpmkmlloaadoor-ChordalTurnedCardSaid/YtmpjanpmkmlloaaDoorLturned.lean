/- The law ChordalTurned: its contract. -/
import Derived.Test.YtmpjanpmkmlloaaDoorCe
namespace Go.Proofs.YtmpjanpmkmlloaaDoor
open Go Go.RowKit VC
set_option linter.unusedSimpArgs false
set_option linter.unusedVariables false

theorem turned_c {w : World} {v : Value} {G : List Int} (hs : SlI w v G) (hT : Tab w) : Calls Tryd.prog 4 #[v] w (Ret w (.bool true)) := by
  refine f4_calls _ ?_
  refine (of_c hs).mono ?_
  rintro e w1 ⟨v1, rfl, h1, g1⟩
  by_cases hv : VG G
  · obtain ⟨N, rfl⟩ := VG_nat hv
    have hN : VN N := VG_ofN.1 hv
    have h12 := hN.le
    rw [take_VN hN] at h1
    refine ⟨v1, rfl, (Clique_c h1.slI hN (hT.grow g1)).mono ?_⟩
    rintro e w2 ⟨rfl, g2⟩
    have g02 := g1.trans g2
    refine ⟨_, _, rfl, (of_c (hs.grow g02)).mono ?_⟩
    rintro e w3 ⟨v3, rfl, h3, g3⟩
    have g03 := g02.trans g3
    rw [take_VN hN] at h3
    refine ⟨v3, rfl, (Independent_c h3.slI hN (hT.grow g03)).mono ?_⟩
    rintro e w4 ⟨rfl, g4⟩
    have g04 := g03.trans g4
    refine ⟨_, _, rfl, ?_⟩
    show Calls _ _ _ _ _
    refine (refValid_c (hs.grow g04) (b := true) (by simp [hv])).mono ?_
    rintro e w5 ⟨rfl, g5⟩
    have g05 := g04.trans g5
    refine ⟨true, rfl, ?_⟩
    show Calls _ _ _ _ _
    refine (of_c (hs.grow g05)).mono ?_
    rintro e w6 ⟨v6, rfl, h6, g6⟩
    have g06 := g05.trans g6
    rw [take_VN hN] at h6
    have hsz : w.heap.size ≤ w6.heap.size := g06.size
    refine ⟨v6, rfl, h6.slI.ln ?_⟩
    rw [ofN_len]
    refine ⟨fun h t w' => ∃ k : Nat, t = k ∧ k ≤ N.length ∧ OwnI w' w6.heap.size h (ofN ((coN N).take k)) ∧ Grow w6 w', fun _ t _ => N.length - t.toNat, ⟨0, rfl, by omega, by rw [List.take_zero]; exact Own.nil _ _ _ _, Grow.refl _⟩, ?_⟩
    rintro - h t w7 ⟨k, rfl, hk, ho, g7⟩
    refine condD (fun hlt => ?_) (fun hge => ?_)
    · have hkl : k < N.length := by omega
      refine (h6.slI.grow g7).rd rfl (by simpa using hkl) fun m => hs.ln ?_
      rw [ofN_get, nb_get, ofN_len, shl_all h12]
      have e1 : iAndNot .i64 (iAndNot .i64 ((al N : Nat) : Int) ((nb N k : Nat) : Int)) (iShl .i64 1 (k : Int)) = ((nb (coN N) k : Nat) : Int) := by
        have ha : al N < 4096 := Nat.lt_of_lt_of_le (al_lt N) hN.pow
        rw [clq_expr ha (hN.nb_lt' k) (by omega), nb_co hkl]
      have ha : al N < 4096 := Nat.lt_of_lt_of_le (al_lt N) hN.pow
      refine ⟨by omega, by unfold inR; omega, by omega, fun w8 hw8 => ?_⟩
      rw [e1] at hw8
      refine pappT el_cgraph hw8 (ho.dr m) (by simpa using g7.size) (by simp; omega) ?_
      intro v' w9 ho' hf'
      refine ⟨by unfold inR; omega, ⟨k + 1, by omega, by omega, ?_, ?_⟩, by dsimp only; omega⟩
      · have e2 : (coN N).take (k + 1) = (coN N).take k ++ [nb (coN N) k] := by
          rw [List.take_succ_eq_append_getElem (show k < (coN N).length by simpa using hkl), nb_get]
        rw [e2, ofN_app]
        exact ho'
      · exact own_grow (g7.dr m) (ho.dr m) (Nat.le_refl _) hw8 hf'
    · have hkl : k = N.length := by omega
      subst hkl
      have hlen : (coN N).take N.length = coN N := List.take_of_length_le (by simp)
      rw [hlen] at ho
      have g07 := g06.trans g7
      refine (Independent_c ho.slI hN.co (hT.grow g07)).mono ?_
      rintro e w8 ⟨rfl, g8⟩
      refine ⟨_, _, rfl, (Clique_c (ho.grow g8).slI hN.co (hT.grow (g07.trans g8))).mono ?_⟩
      rintro e w9 ⟨rfl, g9⟩
      have e1 : alpha_ (coN N) = omega_ N := by
        unfold alpha_ omega_
        rw [coN_len]
        exact bestN_congr fun s hs => co_free hN hs
      have e2 : omega_ (coN N) = alpha_ N := by
        unfold alpha_ omega_
        rw [coN_len]
        exact bestN_congr fun s hs => co_cliq hN hs
      rw [e1, e2]
      refine ⟨_, _, rfl, condD (fun _ => condD (fun _ => condD (fun _ => condD (fun _ => ?_) fun h => absurd rfl h) fun h => absurd rfl h) fun h => absurd rfl h) fun h => absurd rfl h⟩
      have g09 := (g07.trans g8).trans g9
      refine (awake_c (hT.grow g09)).mono ?_
      rintro e w10 ⟨rfl, g10⟩
      exact ⟨_, rfl, rfl, g09.trans g10⟩
  · refine ⟨v1, rfl, (Clique_no h1.slI (VG_take hv)).mono ?_⟩
    rintro e w2 ⟨rfl, g2⟩
    have g02 := g1.trans g2
    refine ⟨_, _, rfl, (of_c (hs.grow g02)).mono ?_⟩
    rintro e w3 ⟨v3, rfl, h3, g3⟩
    have g03 := g02.trans g3
    refine ⟨v3, rfl, (Independent_no h3.slI (VG_take hv)).mono ?_⟩
    rintro e w4 ⟨rfl, g4⟩
    have g04 := g03.trans g4
    refine ⟨_, _, rfl, ?_⟩
    show Calls _ _ _ _ _
    refine (awake_c (hT.grow g04)).mono ?_
    rintro e w10 ⟨rfl, g10⟩
    exact ⟨_, rfl, rfl, g04.trans g10⟩
end Go.Proofs.YtmpjanpmkmlloaaDoor
