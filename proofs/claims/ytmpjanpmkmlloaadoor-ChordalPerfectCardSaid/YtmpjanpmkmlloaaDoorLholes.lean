/- The laws ChordalHoles and ChordalOne: their contracts. -/
import Derived.Test.YtmpjanpmkmlloaaDoorCj
import Derived.Test.YtmpjanpmkmlloaaDoorCk
import Derived.Test.YtmpjanpmkmlloaaDoorGe
namespace Go.Proofs.YtmpjanpmkmlloaaDoor
open Go Go.RowKit VC
set_option linter.unusedSimpArgs false
set_option linter.unusedVariables false

theorem condT {b : Bool} {x y : Prop} (h : b = true) (hx : x) : condP b x y := condP_i (fun _ => hx) fun h' => by rw [h] at h'; cases h'
theorem condF {b : Bool} {x y : Prop} (h : b = false) (hy : y) : condP b x y := condP_i (fun h' => by rw [h] at h'; cases h') fun _ => hy
theorem holes_c {w : World} {v u : Value} {G l : List Int} (hs : SlI w v G) (hu : SlI w u l) (hT : Tab w) : Calls Tryd.prog 5 #[v, u] w (Ret w (.bool true)) := by
  refine f5_calls _ _ ?_
  by_cases hv : VG G
  · obtain ⟨N, rfl⟩ := VG_nat hv
    have hN : VN N := VG_ofN.1 hv
    refine (of_c hs).mono ?_
    rintro e w1 ⟨v1, rfl, h1, g1⟩
    rw [take_VN hN] at h1
    refine ⟨v1, rfl, (Hole_c h1.slI hN (hT.grow g1) (ord_none hN) (ord_some hN)).mono ?_⟩
    rintro e w2 ⟨o, rfl, h2, g2⟩
    have g02 := g1.trans g2
    refine ⟨o, _, rfl, (of_c (hs.grow g02)).mono ?_⟩
    rintro e w3 ⟨v3, rfl, h3, g3⟩
    have g03 := g02.trans g3
    rw [take_VN hN] at h3
    refine ⟨v3, rfl, (few_c (hu.grow g03)).mono ?_⟩
    rintro e w4 ⟨u4, rfl, h4, g4⟩
    have g04 := g03.trans g4
    refine ⟨u4, rfl, (checkHole_c (h3.slI.grow g4) h4.slI hN).mono ?_⟩
    rintro e w5 ⟨rfl, g5⟩
    have g05 := g04.trans g5
    refine ⟨_, _, rfl, (refValid_c (hs.grow g05) (b := true) (by simp [hv])).mono ?_⟩
    rintro e w6 ⟨rfl, g6⟩
    have g06 := g05.trans g6
    refine ⟨true, rfl, ?_⟩
    show Calls _ _ _ _ _
    refine (refHole_c (hs.grow g06) hN).mono ?_
    rintro e w7 ⟨o7, rfl, h7, g7⟩
    have g07 := g06.trans g7
    refine ⟨o7, _, rfl, (equal_c (h2.grow ((((g3.trans g4).trans g5).trans g6).trans g7)) h7).mono ?_⟩
    rintro e w8 ⟨rfl, g8⟩
    have g08 := g07.trans g8
    refine ⟨_, rfl, condT (by simp) (condD (fun _ => ?_) fun h => absurd rfl h)⟩
    refine (isHole_c (hs.grow g08) (hu.grow g08) hN holeB_iff).mono ?_
    rintro e w9 ⟨rfl, g9⟩
    have g09 := g08.trans g9
    have hB : holeB N (l.take 14) = holeB N l := by rw [Bool.eq_iff_iff, holeB_iff, holeB_iff, HoleP.take hN]
    refine ⟨_, rfl, condT (by rw [hB]; simp) (condD (fun _ => ?_) fun h => absurd rfl h)⟩
    refine (awake_c (hT.grow g09)).mono ?_
    rintro e w10 ⟨rfl, g10⟩
    exact ⟨_, rfl, rfl, g09.trans g10⟩
  · refine (of_c hs).mono ?_
    rintro e w1 ⟨v1, rfl, h1, g1⟩
    refine ⟨v1, rfl, (Hole_no h1.slI (VG_take hv)).mono ?_⟩
    rintro e w2 ⟨rfl, g2⟩
    have g02 := g1.trans g2
    refine ⟨_, _, rfl, (of_c (hs.grow g02)).mono ?_⟩
    rintro e w3 ⟨v3, rfl, h3, g3⟩
    have g03 := g02.trans g3
    refine ⟨v3, rfl, (few_c (hu.grow g03)).mono ?_⟩
    rintro e w4 ⟨u4, rfl, h4, g4⟩
    have g04 := g03.trans g4
    refine ⟨u4, rfl, (checkHole_no (h3.slI.grow g4) (VG_take hv)).mono ?_⟩
    rintro e w5 ⟨rfl, g5⟩
    have g05 := g04.trans g5
    refine ⟨_, _, rfl, (refValid_c (hs.grow g05) (b := false) (by simp [hv])).mono ?_⟩
    rintro e w6 ⟨rfl, g6⟩
    have g06 := g05.trans g6
    refine ⟨false, rfl, ?_⟩
    refine ⟨_, _, _, rfl, ?_⟩
    refine (awake_c (hT.grow g06)).mono ?_
    rintro e w10 ⟨rfl, g10⟩
    exact ⟨_, rfl, rfl, g06.trans g10⟩

/-! ## ChordalOne -/
theorem cmpI_cons (x y : Int) (r s : List Int) : cmpI (x :: r) (y :: s) = if x < y then -1 else if y < x then 1 else cmpI r s := rfl
theorem nan_c {w : World} {x : Int} : Calls Tryd.prog 112 #[.int .i64 x] w (Ret w (.bool false)) := by
  refine f112_calls _ ⟨?_, Grow.refl w⟩
  simp
theorem cmp_c {w : World} {x y : Int} : Calls Tryd.prog 95 #[.int .i64 x, .int .i64 y] w (Ret w (.int .i64 (if x < y then -1 else if y < x then 1 else 0))) := by
  refine f95_calls _ _ ?_
  refine nan_c.mono ?_
  rintro e w1 ⟨rfl, g1⟩
  refine ⟨_, rfl, nan_c.mono ?_⟩
  rintro e w2 ⟨rfl, g2⟩
  refine ⟨_, rfl, condF rfl (condF rfl (condD (fun h => ?_) fun h => condD (fun h' => ?_) fun h' => ?_))⟩
  · rw [if_pos h]; exact ⟨rfl, g1.trans g2⟩
  · rw [if_neg h, if_pos h']; exact ⟨rfl, g1.trans g2⟩
  · rw [if_neg h, if_neg h']; exact ⟨rfl, g1.trans g2⟩
theorem compare_c {w : World} {u v : Value} {xs ys : List Int} (hx : SlI w u xs) (hy : SlI w v ys) : Calls Tryd.prog 45 #[u, v] w (Ret w (.int .i64 (cmpI xs ys))) := by
  refine f45_calls _ _ ?_
  have h1 := hx.len_le
  have h2 := hy.len_le
  refine hx.ln ⟨fun t w' => ∃ k : Nat, t = k ∧ k ≤ xs.length ∧ k ≤ ys.length ∧ Grow w w' ∧ cmpI xs ys = cmpI (xs.drop k) (ys.drop k), fun t _ => xs.length - t.toNat, ⟨0, rfl, by omega, by omega, Grow.refl w, rfl⟩, ?_⟩
  rintro - t w1 ⟨k, rfl, hk, hk2, hw, heq⟩
  refine condD (fun hlt => ?_) (fun hge => ?_)
  · have hkl : k < xs.length := by omega
    rw [List.drop_eq_getElem_cons hkl] at heq
    refine (hx.grow hw).rd rfl hkl ((hy.grow hw).ln (condD (fun h => ?_) fun h => ?_))
    · have : ys.drop k = [] := List.drop_eq_nil_of_le (by omega)
      rw [this] at heq
      rw [heq]; exact ⟨rfl, hw⟩
    · have hky : k < ys.length := by omega
      rw [List.drop_eq_getElem_cons hky] at heq
      rw [cmpI_cons] at heq
      refine (hy.grow hw).rd rfl hky (cmp_c.mono ?_)
      rintro e w2 ⟨rfl, g2⟩
      refine ⟨_, rfl, condP_i (fun h => ?_) fun h => ?_⟩
      · by_cases c1 : xs[k] < ys[k]
        · rw [if_pos c1] at heq ⊢
          rw [heq]; exact ⟨rfl, hw.trans g2⟩
        · rw [if_neg c1] at heq h ⊢
          by_cases c2 : ys[k] < xs[k]
          · rw [if_pos c2] at heq ⊢
            rw [heq]; exact ⟨rfl, hw.trans g2⟩
          · rw [if_neg c2] at h; simp at h
      · have c1 : ¬ xs[k] < ys[k] := fun c => by rw [if_pos c] at h; simp at h
        rw [if_neg c1] at heq h
        have c2 : ¬ ys[k] < xs[k] := fun c => by rw [if_pos c] at h; simp at h
        rw [if_neg c2] at heq
        exact ⟨by unfold inR; omega, ⟨k + 1, by omega, by omega, by omega, hw.trans g2, heq⟩, by dsimp only; omega⟩
  · have hkl : k = xs.length := by omega
    subst hkl
    rw [List.drop_length] at heq
    refine (hx.grow hw).ln ((hy.grow hw).ln (condD (fun h => ?_) fun h => ?_))
    · rw [List.drop_eq_getElem_cons (show xs.length < ys.length by omega)] at heq
      rw [heq]; exact ⟨rfl, hw⟩
    · rw [List.drop_eq_nil_of_le (show ys.length ≤ xs.length by omega)] at heq
      rw [heq]; exact ⟨rfl, hw⟩
theorem one_c {w : World} {v u : Value} {G l : List Int} (hs : SlI w v G) (hu : SlI w u l) (hT : Tab w) : Calls Tryd.prog 10 #[v, u] w (Ret w (.bool true)) := by
  refine f10_calls _ _ ?_
  by_cases hv : VG G
  · obtain ⟨N, rfl⟩ := VG_nat hv
    have hN : VN N := VG_ofN.1 hv
    have h12 := hN.le
    refine (of_c hs).mono ?_
    rintro e w1 ⟨v1, rfl, h1, g1⟩
    rw [take_VN hN] at h1
    refine ⟨v1, rfl, (Order_c h1.slI hN (hT.grow g1)).mono ?_⟩
    rintro e w2 ⟨o, rfl, h2, g2⟩
    have g02 := g1.trans g2
    refine ⟨o, _, rfl, (of_c (hs.grow g02)).mono ?_⟩
    rintro e w3 ⟨v3, rfl, h3, g3⟩
    have g03 := g02.trans g3
    rw [take_VN hN] at h3
    refine ⟨v3, rfl, (Hole_c h3.slI hN (hT.grow g03) (ord_none hN) (ord_some hN)).mono ?_⟩
    rintro e w4 ⟨b, rfl, h4, g4⟩
    have g04 := g03.trans g4
    refine ⟨b, _, rfl, (of_c (hs.grow g04)).mono ?_⟩
    rintro e w5 ⟨v5, rfl, h5, g5⟩
    have g05 := g04.trans g5
    rw [take_VN hN] at h5
    refine ⟨v5, rfl, (few_c (hu.grow g05)).mono ?_⟩
    rintro e w6 ⟨u6, rfl, h6, g6⟩
    have g06 := g05.trans g6
    refine ⟨u6, rfl, (checkOrder_c (h5.slI.grow g6) h6.slI hN (hT.grow g06)).mono ?_⟩
    rintro e w7 ⟨rfl, g7⟩
    have g07 := g06.trans g7
    refine ⟨_, _, rfl, (of_c (hs.grow g07)).mono ?_⟩
    rintro e w8 ⟨v8, rfl, h8, g8⟩
    have g08 := g07.trans g8
    rw [take_VN hN] at h8
    refine ⟨v8, rfl, (few_c (hu.grow g08)).mono ?_⟩
    rintro e w9 ⟨u9, rfl, h9, g9⟩
    have g09 := g08.trans g9
    refine ⟨u9, rfl, (checkHole_c (h8.slI.grow g9) h9.slI hN).mono ?_⟩
    rintro e w10 ⟨rfl, g10⟩
    have g0 := g09.trans g10
    have hB : holeB N (l.take 14) = holeB N l := by rw [Bool.eq_iff_iff, holeB_iff, holeB_iff, HoleP.take hN]
    rw [check_eq hN, hB]
    refine ⟨_, _, rfl, condF (by simp) (condF (by simp) ?_)⟩
    have fin : ∀ {w'}, Grow w w' → Calls Tryd.prog 21 #[] w' fun e w'' => ∃ t : Bool, e = .returned (.bool t) ∧ Ret w (.bool true) (.returned (.bool t)) w'' := fun hg => (awake_c (hT.grow hg)).mono (by
      rintro e w'' ⟨rfl, g⟩
      exact ⟨_, rfl, rfl, hg.trans g⟩)
    cases ho : ordG N with
    | some r =>
      have hf := ord_some hN (by rw [ho]; rfl)
      have hnh := (firstH_none hN).1 hf
      have hnB : holeB N l = false := by
        cases h : holeB N l with
        | false => rfl
        | true => exact absurd (holeB_iff.1 h) (hnh l)
      rw [ho] at h2
      rw [hf]
      refine condF (by simp) (condF (by simp) (condT (by simp) (condF (by simp) (condT (by simp) ?_))))
      refine (of_c (hs.grow g0)).mono ?_
      rintro e w11 ⟨v11, rfl, h11, g11⟩
      have g011 := g0.trans g11
      rw [take_VN hN] at h11
      have h2' := h2.slI.grow (((((((((g3.trans g4).trans g5).trans g6).trans g7).trans g8).trans g9).trans g10).trans g11))
      refine ⟨v11, rfl, (checkOrder_c h11.slI h2' hN (hT.grow g011)).mono ?_⟩
      rintro e w12 ⟨rfl, g12⟩
      have g012 := g011.trans g12
      have hel := ordG_el hN ho
      have hlen : (ofN r).length = N.length := el_len hN hel
      have hchk : (permN N (ofN r) && chkN N (al N) (ofN r)) = true := by
        have := check_eq hN (ofN r)
        rw [List.take_of_length_le (by omega)] at this
        rw [this]; exact hel
      refine ⟨_, _, rfl, condT (by simpa using hchk) (condT (by simp) (condT (by rw [hnB]; rfl) (condP_i (fun _ => fin g012) fun hb => ?_)))⟩
      have hb : elN N (al N) l = true := by simpa using hb
      refine (compare_c (h2'.grow g12) (hu.grow g012)).mono ?_
      rintro e w13 ⟨rfl, g13⟩
      refine ⟨_, rfl, condT ?_ (fin (g012.trans g13))⟩
      have := greedy_least hN 12 (al N) r l ho hb
      simpa using this
    | none =>
      have hf := ord_none hN ho
      obtain ⟨r, hr⟩ := Option.isSome_iff_exists.1 hf
      have hole := firstH_hole hr
      have hnel : elN N (al N) l = false := hole_no_order hN hole l
      rw [hr] at h4 ⊢
      refine condF (by simp) (condT (by simp) (condF (by simp) (condF (by simp) (condF (by simp) ?_))))
      refine (of_c (hs.grow g0)).mono ?_
      rintro e w11 ⟨v11, rfl, h11, g11⟩
      have g011 := g0.trans g11
      rw [take_VN hN] at h11
      have h4' := h4.grow (((((((g5.trans g6).trans g7).trans g8).trans g9).trans g10).trans g11))
      refine ⟨v11, rfl, (checkHole_c h11.slI h4' hN).mono ?_⟩
      rintro e w12 ⟨rfl, g12⟩
      have g012 := g011.trans g12
      refine ⟨_, _, rfl, condT (holeB_iff.2 hole) (condT (by simp) (condT (by rw [hnel]; rfl) (condP_i (fun _ => fin g012) fun hb => ?_)))⟩
      have hb : HoleP N l := holeB_iff.1 (by simpa using hb)
      refine (h4'.grow g12).ln ((hu.grow g012).ln (condT ?_ (fin g012)))
      have := firstH_least hN hr hb
      simp; omega
  · refine (of_c hs).mono ?_
    rintro e w1 ⟨v1, rfl, h1, g1⟩
    refine ⟨v1, rfl, (Order_no h1.slI (VG_take hv)).mono ?_⟩
    rintro e w2 ⟨rfl, g2⟩
    have g02 := g1.trans g2
    refine ⟨_, _, rfl, (of_c (hs.grow g02)).mono ?_⟩
    rintro e w3 ⟨v3, rfl, h3, g3⟩
    have g03 := g02.trans g3
    refine ⟨v3, rfl, (Hole_no h3.slI (VG_take hv)).mono ?_⟩
    rintro e w4 ⟨rfl, g4⟩
    have g04 := g03.trans g4
    refine ⟨_, _, rfl, (of_c (hs.grow g04)).mono ?_⟩
    rintro e w5 ⟨v5, rfl, h5, g5⟩
    have g05 := g04.trans g5
    refine ⟨v5, rfl, (few_c (hu.grow g05)).mono ?_⟩
    rintro e w6 ⟨u6, rfl, h6, g6⟩
    have g06 := g05.trans g6
    refine ⟨u6, rfl, (checkOrder_no (h5.slI.grow g6) (VG_take hv)).mono ?_⟩
    rintro e w7 ⟨rfl, g7⟩
    have g07 := g06.trans g7
    refine ⟨_, _, rfl, (of_c (hs.grow g07)).mono ?_⟩
    rintro e w8 ⟨v8, rfl, h8, g8⟩
    have g08 := g07.trans g8
    refine ⟨v8, rfl, (few_c (hu.grow g08)).mono ?_⟩
    rintro e w9 ⟨u9, rfl, h9, g9⟩
    have g09 := g08.trans g9
    refine ⟨u9, rfl, (checkHole_no (h8.slI.grow g9) (VG_take hv)).mono ?_⟩
    rintro e w10 ⟨rfl, g10⟩
    have g0 := g09.trans g10
    refine ⟨_, _, rfl, condT (by simp) (condT (by simp) (condT (by simp) (condT (by simp) (condT (by simp) ?_))))⟩
    refine (awake_c (hT.grow g0)).mono ?_
    rintro e w11 ⟨rfl, g11⟩
    exact ⟨_, rfl, rfl, g0.trans g11⟩
end Go.Proofs.YtmpjanpmkmlloaaDoor
