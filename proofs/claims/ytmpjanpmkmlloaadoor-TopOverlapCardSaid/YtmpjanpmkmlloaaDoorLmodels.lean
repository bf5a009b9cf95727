/- The laws ChordalModels and ChordalSpans: their contracts. -/
import Derived.Test.YtmpjanpmkmlloaaDoorCv
namespace Go.Proofs.YtmpjanpmkmlloaaDoor
open Go Go.RowKit VC
set_option linter.unusedSimpArgs false
set_option linter.unusedVariables false

theorem v3_is (a b c : Nat) : v3 a b c = [Value.int .i64 (a : Int), .int .i64 (b : Int), .int .i64 (c : Int)].toArray := rfl
theorem atA_is (o : Option (Nat × Nat × Nat)) : ∃ a b c : Nat, atA o = v3 a b c := by
  cases o with
  | none => exact ⟨0, 0, 0, rfl⟩
  | some t => obtain ⟨a, b, c⟩ := t; exact ⟨a, b, c, rfl⟩
theorem one3 (a b c : Int) : ∀ v ∈ [Value.int .i64 a, .int .i64 b, .int .i64 c], v.oneCell' = true := by
  intro v hv
  simp at hv
  rcases hv with rfl | rfl | rfl <;> rfl
theorem models_c {w : World} {v u : Value} {G : List Int} {ps : List (Int × Int)} (hs : SlI w v G) (hu : SlP w u ps) (hT : Tab w) : Calls Tryd.prog 7 #[v, u] w (Ret w (.bool true)) := by
  refine f7_calls _ _ ?_
  have fin : ∀ {w'}, Grow w w' → Calls Tryd.prog 21 #[] w' fun e w'' => ∃ t : Bool, e = .returned (.bool t) ∧ Ret w (.bool true) (.returned (.bool t)) w'' := fun hg => (awake_c (hT.grow hg)).mono (by
    rintro e w'' ⟨rfl, g⟩
    exact ⟨_, rfl, rfl, hg.trans g⟩)
  refine (of_c hs).mono ?_
  rintro e w1 ⟨v1, rfl, h1, g1⟩
  refine ⟨v1, rfl, ?_⟩
  by_cases hv : VG G
  · obtain ⟨N, rfl⟩ := VG_nat hv
    have hN : VN N := VG_ofN.1 hv
    have h12 := hN.le
    have hp := hN.pow
    rw [take_VN hN] at h1
    refine (Apart_c h1.slI hN (hT.grow g1)).mono ?_
    rintro e w2 ⟨rfl, g2⟩
    have g02 := g1.trans g2
    obtain ⟨a, b, c, habc⟩ := atA_is (firstA N)
    rw [habc]
    refine ⟨_, _, rfl, fun w3 hw3 => ?_⟩
    rw [v3_is]
    refine setR (cs := [Value.int .i64 (a : Int), .int .i64 (b : Int), .int .i64 (c : Int)]) hw3 rfl (one3 _ _ _) fun w4 g24 s24 c4 => ?_
    have g04 := g02.trans g24
    refine (of_c (hs.grow g04)).mono ?_
    rintro e w5 ⟨v5, rfl, h5, g5⟩
    have g05 := g04.trans g5
    rw [take_VN hN] at h5
    refine ⟨v5, rfl, (Model_any h5.slI hN (hT.grow g05)).mono ?_⟩
    rintro e w6 ⟨m, rfl, hm0, hm5, g6⟩
    have g06 := g05.trans g6
    refine ⟨m, _, rfl, (of_c (hs.grow g06)).mono ?_⟩
    rintro e w7 ⟨v7, rfl, h7, g7⟩
    have g07 := g06.trans g7
    rw [take_VN hN] at h7
    refine ⟨v7, rfl, (spans_c (SlC.grow hu g07)).mono ?_⟩
    rintro e w8 ⟨u8, rfl, h8, g8⟩
    have g08 := g07.trans g8
    open Classical in
    refine ⟨u8, rfl, (checkModel_c (b := decide (MdP N (ps.take 14))) (h7.slI.grow g8) h8 hN (by simp)).mono ?_⟩
    rintro e w9 ⟨rfl, g9⟩
    have g09 := g08.trans g9
    refine ⟨_, _, rfl, (refValid_c (hs.grow g09) (b := true) (by simp [hv])).mono ?_⟩
    rintro e w10 ⟨rfl, g10⟩
    have g010 := g09.trans g10
    refine ⟨true, rfl, cF rfl ((refApart_c (hs.grow g010) hN).mono ?_)⟩
    rintro e w11 ⟨rfl, g11⟩
    have g011 := g010.trans g11
    rw [habc]
    refine ⟨_, _, rfl, fun w12 hw12 => ?_⟩
    rw [v3_is]
    refine setR (cs := [Value.int .i64 (a : Int), .int .i64 (b : Int), .int .i64 (c : Int)]) hw12 rfl (one3 _ _ _) fun w13 g13 s13 c13 => ?_
    have g013 := g011.trans g13
    have g413 := ((((((g5.trans g6).trans g7).trans g8).trans g9).trans g10).trans g11).trans g13
    refine ⟨[Value.int .i64 (a : Int), .int .i64 (b : Int), .int .i64 (c : Int)], rfl, fun j u hj => g413.cell (c4 j u hj), [Value.int .i64 (a : Int), .int .i64 (b : Int), .int .i64 (c : Int)], rfl, c13, _, neq3 _ _ _ _ _ _, cF (by simp) (cF (by simp) ?_)⟩
    open Classical in
    refine (modelled_c (b := decide (MdP N ps)) (hs.grow g013) (SlC.grow hu g013) hN (by simp)).mono ?_
    rintro e w14 ⟨rfl, g14⟩
    have g014 := g013.trans g14
    refine ⟨_, rfl, cF (by simp [MdP.take hN]) (cF (by simp) ((awake_c (hT.grow g014)).mono ?_))⟩
    rintro e w15 ⟨rfl, g15⟩
    have g015 := g014.trans g15
    open Classical in
    refine ⟨true, rfl, cF rfl ((interval_c (b := decide (∃ P, Good N P)) (hs.grow g015) hN (by simp)).mono ?_)⟩
    rintro e w16 ⟨rfl, g16⟩
    have g016 := g015.trans g16
    have hmod : modE N = if (∃ P, Good N P) then 0 else 5 := by
      unfold modE
      by_cases h : ∃ P, Good N P
      · rw [if_pos h]
        obtain ⟨h1, h2⟩ := (good_iff hN).1 h
        rw [h1, h2]; rfl
      · rw [if_neg h]
        have : ¬ ((ordG N).isSome && (firstA N).isNone) = true := fun hh => h ((good_iff hN).2 (by simpa using hh))
        rw [if_neg this]
    refine ⟨_, rfl, condP_i (fun h => ?_) (fun h => ?_)⟩
    · have hno : ¬ ∃ P, Good N P := by simpa using h
      have e5 : modE N = 5 := by rw [hmod, if_neg hno]
      rw [e5]
      have := hm5 (by rw [e5]; omega)
      subst this
      exact ⟨none, 0, 0, rfl, cT (by simp) ⟨rfl, g016⟩⟩
    · have hyes : ∃ P, Good N P := by simpa using h
      have e0 : modE N = 0 := by rw [hmod, if_pos hyes]
      rw [e0]
      refine cT (by simp) ((own_c (SlC.grow (hm0 e0) (((((((((g7.trans g8).trans g9).trans g10).trans g11).trans g13).trans g14).trans g15).trans g16))) (by simp [spansOf]; omega)).mono ?_)
      rintro e w17 ⟨u17, rfl, h17, g17⟩
      have g017 := g016.trans g17
      refine ⟨u17, rfl, (modelled_c (b := true) (hs.grow g017) h17 hN (by simp [spansOf_mdp hN hyes])).mono ?_⟩
      rintro e w18 ⟨rfl, g18⟩
      exact ⟨true, rfl, rfl, g017.trans g18⟩
  · refine (Apart_no h1.slI (VG_take hv)).mono ?_
    rintro e w2 ⟨rfl, g2⟩
    have g02 := g1.trans g2
    refine ⟨_, _, rfl, fun w3 hw3 => ?_⟩
    rw [v3_is]
    refine setR (cs := [Value.int .i64 ((0 : Nat) : Int), .int .i64 ((0 : Nat) : Int), .int .i64 ((0 : Nat) : Int)]) hw3 rfl (one3 _ _ _) fun w4 g24 s24 c4 => ?_
    have g04 := g02.trans g24
    refine (of_c (hs.grow g04)).mono ?_
    rintro e w5 ⟨v5, rfl, h5, g5⟩
    have g05 := g04.trans g5
    refine ⟨v5, rfl, (Model_no h5.slI (VG_take hv)).mono ?_⟩
    rintro e w6 ⟨rfl, g6⟩
    have g06 := g05.trans g6
    refine ⟨_, _, rfl, (of_c (hs.grow g06)).mono ?_⟩
    rintro e w7 ⟨v7, rfl, h7, g7⟩
    have g07 := g06.trans g7
    refine ⟨v7, rfl, (spans_c (SlC.grow hu g07)).mono ?_⟩
    rintro e w8 ⟨u8, rfl, h8, g8⟩
    have g08 := g07.trans g8
    refine ⟨u8, rfl, (checkModel_no (h7.slI.grow g8) (VG_take hv)).mono ?_⟩
    rintro e w9 ⟨rfl, g9⟩
    have g09 := g08.trans g9
    refine ⟨_, _, rfl, (refValid_c (hs.grow g09) (b := false) (by simp [hv])).mono ?_⟩
    rintro e w10 ⟨rfl, g10⟩
    have g010 := g09.trans g10
    have g410 := ((((g5.trans g6).trans g7).trans g8).trans g9).trans g10
    refine ⟨false, rfl, cT rfl ⟨[Value.int .i64 ((0 : Nat) : Int), .int .i64 ((0 : Nat) : Int), .int .i64 ((0 : Nat) : Int)], rfl, fun j u hj => g410.cell (c4 j u hj), _, eql3 _ _ _ _ _ _, cT (by simp) ⟨none, 0, 0, rfl, cT (by simp) (cT rfl (cT (by simp) (cT (by simp) (cT (by simp) (fin g010)))))⟩⟩⟩
theorem spansL_c {w : World} {v u : Value} {G : List Int} {ps : List (Int × Int)} (hs : SlI w v G) (hu : SlP w u ps) (hT : Tab w) : Calls Tryd.prog 8 #[v, u] w (Ret w (.bool true)) := by
  refine f8_calls _ _ ?_
  have fin : ∀ {w'}, Grow w w' → Calls Tryd.prog 21 #[] w' fun e w'' => ∃ t : Bool, e = .returned (.bool t) ∧ Ret w (.bool true) (.returned (.bool t)) w'' := fun hg => (awake_c (hT.grow hg)).mono (by
    rintro e w'' ⟨rfl, g⟩
    exact ⟨_, rfl, rfl, hg.trans g⟩)
  refine (of_c hs).mono ?_
  rintro e w1 ⟨v1, rfl, h1, g1⟩
  refine ⟨v1, rfl, ?_⟩
  by_cases hv : VG G
  · obtain ⟨N, rfl⟩ := VG_nat hv
    have hN : VN N := VG_ofN.1 hv
    have h12 := hN.le
    rw [take_VN hN] at h1
    refine (Order_c h1.slI hN (hT.grow g1)).mono ?_
    rintro e w2 ⟨o2, rfl, -, g2⟩
    have g02 := g1.trans g2
    refine ⟨_, _, rfl, (of_c (hs.grow g02)).mono ?_⟩
    rintro e w3 ⟨v3', rfl, h3, g3⟩
    have g03 := g02.trans g3
    rw [take_VN hN] at h3
    refine ⟨v3', rfl, (Apart_c h3.slI hN (hT.grow g03)).mono ?_⟩
    rintro e w4 ⟨rfl, g4⟩
    have g04 := g03.trans g4
    obtain ⟨a, b, c, habc⟩ := atA_is (firstA N)
    rw [habc]
    refine ⟨_, _, rfl, fun w5 hw5 => ?_⟩
    rw [v3_is]
    refine setR (cs := [Value.int .i64 (a : Int), .int .i64 (b : Int), .int .i64 (c : Int)]) hw5 rfl (one3 _ _ _) fun w6 g46 _ _ => ?_
    have g06 := g04.trans g46
    refine (of_c (hs.grow g06)).mono ?_
    rintro e w7 ⟨v7, rfl, h7, g7⟩
    have g07 := g06.trans g7
    rw [take_VN hN] at h7
    refine ⟨v7, rfl, (Model_any h7.slI hN (hT.grow g07)).mono ?_⟩
    rintro e w8 ⟨m, rfl, hm0, hm5, g8⟩
    have g08 := g07.trans g8
    refine ⟨m, _, rfl, (of_c (hs.grow g08)).mono ?_⟩
    rintro e w9 ⟨v9, rfl, h9, g9⟩
    have g09 := g08.trans g9
    rw [take_VN hN] at h9
    refine ⟨v9, rfl, (spans_c (SlC.grow hu g09)).mono ?_⟩
    rintro e w10 ⟨u10, rfl, h10, g10⟩
    have g010 := g09.trans g10
    open Classical in
    refine ⟨u10, rfl, (checkModel_c (b := decide (MdP N (ps.take 14))) (h9.slI.grow g10) h10 hN (by simp)).mono ?_⟩
    rintro e w11 ⟨rfl, g11⟩
    have g011 := g010.trans g11
    refine ⟨_, _, rfl, cF (by simp) ?_⟩
    -- what follows a model
    have last : modE N = 0 → (∃ P, Good N P) → Calls Tryd.prog 17 #[v] w11 fun e_v42 w_v41 => ∃ t_v43 : Value, e_v42 = .returned t_v43 ∧ Calls Tryd.prog 33 #[t_v43, m] w_v41 fun e_v45 w_v44 => ∃ t_v46 : Bool, ∃ t_v47 : Int, e_v45 = .returned (Value.tuple #[(Value.bool t_v46), (Value.int .i64 t_v47)]) ∧ condP t_v46 (condP (decide (t_v47 = (0 : Int))) (Calls Tryd.prog 21 #[] w_v44 fun e_v49 w_v48 => ∃ t_v50 : Bool, e_v49 = .returned (Value.bool t_v50) ∧ Ret w (.bool true) (.returned (Value.bool t_v50)) w_v48) (Ret w (.bool true) (.returned (Value.bool false)) w_v44)) (Ret w (.bool true) (.returned (Value.bool false)) w_v44) := fun e0 hg => by
      refine (of_c (hs.grow g011)).mono ?_
      rintro e w12 ⟨v12, rfl, h12', g12⟩
      have g012 := g011.trans g12
      rw [take_VN hN] at h12'
      refine ⟨v12, rfl, (checkModel_c (b := true) h12'.slI (SlC.grow (hm0 e0) ((g9.trans g10).trans (g11.trans g12))) hN (by simp [spansOf_mdp hN hg])).mono ?_⟩
      rintro e w13 ⟨rfl, g13⟩
      exact ⟨_, _, rfl, cT rfl (cT rfl (fin (g012.trans g13)))⟩
    have hmod : modE N = 0 ↔ ∃ P, Good N P := by
      rw [good_iff hN]
      unfold modE
      by_cases h : ((ordG N).isSome && (firstA N).isNone) = true
      · rw [if_pos h]; simpa using h
      · rw [if_neg h]
        constructor
        · intro h; simp at h
        · rintro ⟨h1, h2⟩; rw [h1, h2] at h; exact absurd rfl h
    have hmod5 : modE N = 0 ∨ modE N = 5 := by unfold modE; split <;> simp
    have hck : MdP N (ps.take 14) → ∃ P, Good N P := fun h => by
      rw [good_iff hN]
      have := ((MdP.take hN).1 h).mdl hN
      exact ⟨this.chordal hN, (firstA_none hN).2 (this.no_at hN)⟩
    by_cases hg : ∃ P, Good N P
    · have e0 := hmod.2 hg
      obtain ⟨h1, h2⟩ := (good_iff hN).1 hg
      rw [h1, h2, e0]
      refine cT (by simp) (cF (by simp) (condP_i (fun _ => cF (by simp) (cF (by simp) (last e0 hg))) fun _ => cF (by simp) (last e0 hg)))
    · have e0 : ¬ modE N = 0 := fun h => hg (hmod.1 h)
      have e5 : modE N = 5 := hmod5.resolve_left e0
      have hn : ¬ MdP N (ps.take 14) := fun h => hg (hck h)
      rw [e5]
      have hbad : (ordG N).isSome = true → (firstA N).isSome = true := fun h => by
        cases ha : firstA N with
        | some t => rfl
        | none => exact absurd ((good_iff hN).2 ⟨h, ha⟩) hg
      cases ho : (ordG N).isSome with
      | true =>
        rw [hbad ho]
        refine cT (by simp) (cF (by simp) (cF (by simpa using hn) (cT (by simp) (cT (by simp) (fin g011)))))
      | false =>
        refine cF (by simp) (cF (by simp) (cF (by simpa using hn) (cT (by simp) (cT (by simp) (fin g011)))))
  · refine (Order_no h1.slI (VG_take hv)).mono ?_
    rintro e w2 ⟨rfl, g2⟩
    have g02 := g1.trans g2
    refine ⟨_, _, rfl, (of_c (hs.grow g02)).mono ?_⟩
    rintro e w3 ⟨v3', rfl, h3, g3⟩
    have g03 := g02.trans g3
    refine ⟨v3', rfl, (Apart_no h3.slI (VG_take hv)).mono ?_⟩
    rintro e w4 ⟨rfl, g4⟩
    have g04 := g03.trans g4
    refine ⟨_, _, rfl, fun w5 hw5 => ?_⟩
    rw [v3_is]
    refine setR (cs := [Value.int .i64 ((0 : Nat) : Int), .int .i64 ((0 : Nat) : Int), .int .i64 ((0 : Nat) : Int)]) hw5 rfl (one3 _ _ _) fun w6 g46 _ _ => ?_
    have g06 := g04.trans g46
    refine (of_c (hs.grow g06)).mono ?_
    rintro e w7 ⟨v7, rfl, h7, g7⟩
    have g07 := g06.trans g7
    refine ⟨v7, rfl, (Model_no h7.slI (VG_take hv)).mono ?_⟩
    rintro e w8 ⟨rfl, g8⟩
    have g08 := g07.trans g8
    refine ⟨_, _, rfl, (of_c (hs.grow g08)).mono ?_⟩
    rintro e w9 ⟨v9, rfl, h9, g9⟩
    have g09 := g08.trans g9
    refine ⟨v9, rfl, (spans_c (SlC.grow hu g09)).mono ?_⟩
    rintro e w10 ⟨u10, rfl, h10, g10⟩
    have g010 := g09.trans g10
    refine ⟨u10, rfl, (checkModel_no (h9.slI.grow g10) (VG_take hv)).mono ?_⟩
    rintro e w11 ⟨rfl, g11⟩
    exact ⟨_, _, rfl, cT (by simp) (cT (by simp) (cT (by simp) (cT (by simp) (cT (by simp) (fin (g010.trans g11))))))⟩
end Go.Proofs.YtmpjanpmkmlloaaDoor
