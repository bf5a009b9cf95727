/- The statement MatchCored, as a contract. No condition. -/
import Derived.Test.YtjkphmbjdleppaaNk
namespace Go.Proofs.Ytjkphmbjdleppaa
open Go Go.RowKit VC
set_option linter.unusedSimpArgs false
set_option linter.unusedVariables false

theorem matchCored_c {w : World} {hv bv lv : Value} {h : List Int} {b l : List Atm} (sh : SlI w hv h) (sb : SlA w bv b) (sl : SlA w lv l) : Calls Try.prog 12 #[.agg #[hv, bv], lv] w (Ret w (.bool true)) := by
  refine f12_calls _ _ ?_
  refine ⟨_, rfl, fun w1 hw1 => ?_⟩
  have g1 := alloc_grow hw1
  have k0 := boxc hw1 0 hv rfl
  have k1 := boxc hw1 1 bv rfl
  have aw : ∀ {E : World}, Grow w1 E → Calls Try.prog 20 #[] E fun e w' => ∃ t : Bool, e = .returned (.bool t) ∧ Ret w (.bool true) (.returned (.bool t)) w' := fun g => awake_c.mono (by
    rintro e w' ⟨rfl, g'⟩
    exact ⟨_, rfl, rfl, (g1.trans g).trans g'⟩)
  refine ⟨[_, _], rfl, two k0 k1, (ofS_c (sh.grow g1) (sb.gr g1)).mono ?_⟩
  rintro e w4 ⟨ha, ba, rfl, sa, ta, g4⟩
  refine ⟨_, rfl, (core_c sa ta).mono ?_⟩
  rw [okQ_tr]
  rintro e w7 ⟨cv, o, rfl, hB, hV, g7⟩
  have g17 := g4.trans g7
  have g07 := g1.trans g17
  by_cases ok : okQ h b = true
  case neg =>
    rw [if_neg ok]
    exact ⟨_, _, rfl, cT rfl (cT rfl (aw g17))⟩
  rw [if_pos ok] at hB ⊢
  obtain ⟨eb, eh⟩ := trB_of ok
  rw [eb, eh] at hB
  obtain ⟨c, rfl⟩ := core_some ok hB
  have hcl : ∀ i ∈ c, i < b.length := by
    obtain ⟨s, -, -, hs⟩ := hB.2.1
    rw [hs]
    exact set_lt
  have hbl := okQ_len ok
  have hcn : c.length ≤ b.length := by
    obtain ⟨s, -, -, hs⟩ := hB.2.1
    have := (setL_sub b.length s).length_le
    rwa [← hs, List.length_range] at this
  have sc : SlI w7 cv (intL c) := hV.1
  refine ⟨_, _, rfl, cF rfl ⟨[_, _], rfl, two (g17.cell k0) (g17.cell k1), (ofS_c (sh.grow g07) (sb.gr g07)).mono ?_⟩⟩
  rintro e w15 ⟨hb, bb, rfl, sb2, tb2, g15⟩
  rw [eh] at sb2
  rw [eb] at tb2
  refine ⟨_, rfl, (part_c sb2 tb2 (sc.grow g15) hcl (by omega) (by omega)).mono ?_⟩
  rintro e w18 ⟨hp, bp, rfl, sp, tp, g18⟩
  refine ⟨_, _, rfl, fun w22 hw22 => RecV.init (cs := [hp, bp]) hw22 rfl (by
    intro y hy
    simp at hy
    rcases hy with rfl | rfl
    · exact sp.one.2
    · obtain ⟨a, n, m, rfl, -⟩ := SlX.ln tp (K := fun _ => True) trivial
      rfl) fun w23 g23 s23 hC => ⟨[_, _], rfl, hC.all, (core_c (sp.grow g23) (tp.gr g23)).mono ?_⟩⟩
  have okp := hB.1.1
  rw [if_pos okp]
  rintro e w26 ⟨dv, o2, rfl, hD, hV2, g26⟩
  rw [if_pos okp] at hD
  obtain ⟨d, rfl⟩ := core_some okp hD
  have hdc := core_core ok hB hD
  have sd : SlI w26 dv (intL d) := hV2.1
  have g7_26 := ((g15.trans g18).trans g23).trans g26
  have g126 := g17.trans g7_26
  have g026 := g1.trans g126
  refine ⟨_, _, rfl, cF rfl (cF rfl (sd.ln ((sc.grow g7_26).ln (cF (by rw [intL_len, intL_len, hdc]; simp) ⟨[_, _], rfl, two (g126.cell k0) (g126.cell k1), (ofS_c (sh.grow g026) (sb.gr g026)).mono ?_⟩))))⟩
  rintro e w37 ⟨hc, bc, rfl, sc3, tc3, g37⟩
  rw [eh] at sc3
  rw [eb] at tc3
  refine ⟨_, rfl, (factsS_c (sl.gr (g026.trans g37))).mono ?_⟩
  rintro e w40 ⟨la, rfl, sla, g40⟩
  refine ⟨_, rfl, (results_c (sc3.grow g40) (tc3.gr g40) sla).mono ?_⟩
  rintro e w43 ⟨va, rfl, sva, g43⟩
  have g26_43 := (g37.trans g40).trans g43
  have g143 := g126.trans g26_43
  have g043 := g1.trans g143
  have g23_43 := g26.trans g26_43
  have gm : ∀ m : DM w43, Grow w43 (dr w43 m) := fun m => (Grow.refl w43).dr m
  have tail : ∀ {E vb}, Grow w43 E → SlL E vb (resO h (partN b c) (trF l)).2 → condP (!decide ((resO h b (trF l)).1 = (0 : Int))) (Calls Try.prog 20 #[] E fun e w' => ∃ t : Bool, e = .returned (.bool t) ∧ Ret w (.bool true) (.returned (.bool t)) w') (condP (!decide ((resO h (partN b c) (trF l)).1 = (0 : Int))) (Calls Try.prog 20 #[] E fun e w' => ∃ t : Bool, e = .returned (.bool t) ∧ Ret w (.bool true) (.returned (.bool t)) w') (Calls Try.prog 19 #[va, vb] E fun e w' => ∃ t : Bool, e = .returned (.bool t) ∧ condP t (Calls Try.prog 20 #[] w' fun e w' => ∃ t : Bool, e = .returned (.bool t) ∧ Ret w (.bool true) (.returned (.bool t)) w') (Ret w (.bool true) (.returned (.bool false)) w'))) := fun {E vb} g svb => by
    refine condP_i (fun _ => aw (g143.trans g)) fun h1 => condP_i (fun _ => aw (g143.trans g)) fun h2 => ?_
    have h1 : (resO h b (trF l)).1 = 0 := by simpa using h1
    have h2 : (resO h (partN b c) (trF l)).1 = 0 := by simpa using h2
    obtain ⟨q1, f1, r1⟩ := resO_ok h1
    obtain ⟨q2, f2, r2⟩ := resO_ok h2
    refine (rows_c (sva.gr g) svb).mono ?_
    rintro e w' ⟨rfl, g'⟩
    refine ⟨_, rfl, cT (decide_eq_true ?_) (aw ((g143.trans g).trans g'))⟩
    rw [r1, r2]
    exact core_rows (okF_pos f1) ok hB.1 hcl
  refine ⟨_, _, rfl, fun m => ⟨⟨[_, _], rfl, ((hC.grow (g23_43)).grow (gm m)).all, (factsS_c (sl.gr (g043.trans (gm m)))).mono ?_⟩, (factsS_c (sl.gr (g043.trans (gm m)))).mono ?_⟩⟩
  · rintro e w49 ⟨lb, rfl, slb, g49⟩
    have gE := (gm m).trans g49
    have gP := (g23.trans g23_43).trans gE
    refine ⟨_, rfl, (results_c (sp.grow gP) (tp.gr gP) slb).mono ?_⟩
    rintro e w52 ⟨vb, rfl, svb, g52⟩
    exact ⟨_, _, rfl, tail (gE.trans g52) svb⟩
  · rintro e w49 ⟨lb, rfl, slb, g49⟩
    have gE := (gm m).trans g49
    have gP := (g23.trans g23_43).trans gE
    refine ⟨_, rfl, [_, _], rfl, (hC.grow (g23_43.trans gE)).all, (results_c (sp.grow gP) (tp.gr gP) slb).mono ?_⟩
    rintro e w52 ⟨vb, rfl, svb, g52⟩
    exact ⟨_, _, rfl, tail (gE.trans g52) svb⟩
end Go.Proofs.Ytjkphmbjdleppaa
