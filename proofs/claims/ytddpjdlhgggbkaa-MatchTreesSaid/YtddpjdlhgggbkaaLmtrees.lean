/- The statement MatchTrees, as a contract. No condition. -/
import Derived.Test.YtddpjdlhgggbkaaLacyclic
import Derived.Test.YtddpjdlhgggbkaaTk
import Derived.Test.YtddpjdlhgggbkaaTl
namespace Go.Proofs.Ytddpjdlhgggbkaa
open Go Go.RowKit VC
set_option linter.unusedSimpArgs false
set_option linter.unusedVariables false

theorem treeS_few {vb : Nat → Nat → Bool} {n : Nat} {p : List Int} (h5 : n ≤ 5) : TreeS vb n (p.take 9) ↔ TreeS vb n p := by
  rcases Nat.lt_or_ge p.length 10 with h | h
  · rw [List.take_of_length_le (by omega)]
  · constructor
    · intro hT
      have := hT.len
      rw [List.length_take] at this
      omega
    · intro hT
      have := hT.len
      omega
theorem matchTrees_c {w : World} {hv bv pv : Value} {h p : List Int} {b : List Atm} (sh : SlI w hv h) (sb : SlA w bv b) (sp : SlI w pv p) : Calls Try.prog 4 #[.agg #[hv, bv], pv] w (Ret w (.bool true)) := by
  refine f4_calls _ _ ?_
  refine ⟨_, rfl, fun w1 hw1 => ?_⟩
  have g1 := alloc_grow hw1
  have k0 := boxc hw1 0 hv rfl
  have k1 := boxc hw1 1 bv rfl
  have aw : ∀ {E : World}, Grow w1 E → Calls Try.prog 13 #[] E fun e w' => ∃ t : Bool, e = .returned (.bool t) ∧ Ret w (.bool true) (.returned (.bool t)) w' := fun g => awake_c.mono (by
    rintro e w' ⟨rfl, g'⟩
    exact ⟨_, rfl, rfl, (g1.trans g).trans g'⟩)
  refine ⟨[_, _], rfl, two k0 k1, (ofS_c (sh.grow g1) (sb.gr g1)).mono ?_⟩
  rintro e w4 ⟨ha, ba, rfl, sa, ta, g4⟩
  refine ⟨_, rfl, (rest_c sa ta).mono ?_⟩
  rw [okQ_tr]
  rintro e w7 ⟨hR, g7⟩
  have g17 := g4.trans g7
  have g07 := g1.trans g17
  by_cases ok : okQ h b = true
  case neg =>
    have okf : okQ h b = false := by simpa using ok
    rcases hR with ⟨-, rfl⟩ | ⟨h9, -⟩
    case inr => exact absurd h9 ok
    refine ⟨_, _, rfl, [_, _], rfl, two (g17.cell k0) (g17.cell k1), (ofS_c (sh.grow g07) (sb.gr g07)).mono ?_⟩
    rintro e w12 ⟨hb, bb, rfl, sb2, tb2, g12⟩
    refine ⟨_, rfl, (joinTree_c sb2 tb2).mono ?_⟩
    rw [okQ_tr]
    rintro e w15 ⟨hJ, g15⟩
    rcases hJ with ⟨-, rfl⟩ | ⟨h9, -⟩
    case inr => exact absurd h9 ok
    have g115 := (g17.trans g12).trans g15
    have g015 := g1.trans g115
    refine ⟨_, _, rfl, [_, _], rfl, two (g115.cell k0) (g115.cell k1), (ofS_c (sh.grow g015) (sb.gr g015)).mono ?_⟩
    rintro e w20 ⟨hc, bc, rfl, sc, tc, g20⟩
    refine ⟨_, rfl, (few_c (sp.grow (g015.trans g20))).mono ?_⟩
    rintro e w23 ⟨fv, rfl, of, g23⟩
    refine ⟨_, rfl, (checkTree_c (sc.grow g23) (tc.gr g23) (Own.slI of)).mono ?_⟩
    rw [okQ_tr]
    rintro e w26 ⟨hC, g26⟩
    rcases hC with ⟨-, rfl⟩ | ⟨h9, -⟩
    case inr => exact absurd h9 ok
    have g126 := ((g115.trans g20).trans g23).trans g26
    have g026 := g1.trans g126
    refine ⟨_, _, rfl, [_, _], rfl, two (g126.cell k0) (g126.cell k1), (refValid_c (sh.grow g026) (sb.gr g026)).mono ?_⟩
    rintro e w31 ⟨rfl, g31⟩
    rw [okf]
    exact ⟨_, rfl, cT rfl (cT rfl ⟨_, _, _, rfl, cT rfl (cT rfl (cT rfl (cT rfl (cT rfl (aw (g126.trans g31))))))⟩)⟩
  obtain ⟨eb, eh⟩ := trB_of ok
  have hbl := okQ_len ok
  have oa : ∀ a ∈ b, okA a = true := fun a ha => by
    simp only [okQ, Bool.and_eq_true, List.all_eq_true] at ok
    exact ok.1.2 a ha
  rw [eb] at hR
  rcases hR with ⟨h9, -⟩ | ⟨-, l2, p2, rfl, hE, hl⟩
  case inl => rw [ok] at h9; cases h9
  refine ⟨_, _, rfl, [_, _], rfl, two (g17.cell k0) (g17.cell k1), (ofS_c (sh.grow g07) (sb.gr g07)).mono ?_⟩
  rintro e w12 ⟨hb, bb, rfl, sb2, tb2, g12⟩
  rw [eh] at sb2
  rw [eb] at tb2
  refine ⟨_, rfl, (joinTree_c sb2 tb2).mono ?_⟩
  rintro e w15 ⟨hJ, g15⟩
  have g115 := (g17.trans g12).trans g15
  have g015 := g1.trans g115
  have hsing := rest_single hbl.1 hbl.2.1 hE hl
  have hI := earI_init b
  have hJ2 : ∃ tv fI, e = .returned (.tuple #[tv, .int .i64 fI]) ∧ (restV l2 ≠ 0 ∧ tv = .slice none 0 0 ∧ fI = 8 ∨ restV l2 = 0 ∧ fI = 0 ∧ SlI w15 tv p2) := by
    rcases hJ with ⟨h9, -⟩ | ⟨-, l3, p3, hE3, hl3, hJ⟩
    · rw [ok] at h9; cases h9
    obtain ⟨rfl, rfl⟩ := hE.det hE3
    rcases hJ with ⟨hne, rfl⟩ | ⟨h0, tv, rfl, st⟩
    · exact ⟨_, _, rfl, .inl ⟨hne, rfl, rfl⟩⟩
    · exact ⟨_, _, rfl, .inr ⟨h0, rfl, st⟩⟩
  obtain ⟨tv, fI, rfl, hJ⟩ := hJ2
  refine ⟨_, _, rfl, [_, _], rfl, two (g115.cell k0) (g115.cell k1), (ofS_c (sh.grow g015) (sb.gr g015)).mono ?_⟩
  rintro e w20 ⟨hc, bc, rfl, sc, tc, g20⟩
  rw [eh] at sc
  rw [eb] at tc
  refine ⟨_, rfl, (few_c (sp.grow (g015.trans g20))).mono ?_⟩
  rintro e w23 ⟨fv, rfl, of, g23⟩
  refine ⟨_, rfl, (checkTree_c (sc.grow g23) (tc.gr g23) (Own.slI of)).mono ?_⟩
  rintro e w26 ⟨hC, g26⟩
  rcases hC with ⟨h9, -⟩ | ⟨-, c, rfl, hc⟩
  case inl => rw [ok] at h9; cases h9
  rw [treeS_few hbl.2.1] at hc
  have g1526 := (g20.trans g23).trans g26
  have g126 := g115.trans g1526
  have g026 := g1.trans g126
  refine ⟨_, _, rfl, [_, _], rfl, two (g126.cell k0) (g126.cell k1), (refValid_c (sh.grow g026) (sb.gr g026)).mono ?_⟩
  rintro e w31 ⟨rfl, g31⟩
  rw [ok]
  have g131 := g126.trans g31
  have g031 := g1.trans g131
  refine ⟨_, rfl, cF rfl ⟨[_, _], rfl, two (g131.cell k0) (g131.cell k1), (refRest_c (sb.gr g031) oa hbl.1 hbl.2.1).mono ?_⟩⟩
  rintro e w41 ⟨l4, p4, rfl, hE4, hl4, g41⟩
  obtain ⟨rfl, rfl⟩ := hE.det hE4
  have g141 := g131.trans g41
  have g041 := g1.trans g141
  refine ⟨_, rfl, cF (by simp) (cF rfl ⟨[_, _], rfl, two (g141.cell k0) (g141.cell k1), (refTree_c (sb.gr g041) (sp.grow g041) oa hbl.2.1).mono ?_⟩)⟩
  rintro e w45 ⟨c2, rfl, hc2, g45⟩
  have ecc : c = c2 := Bool.eq_iff_iff.2 (hc.trans hc2.symm)
  subst ecc
  have g145 := g141.trans g45
  have g045 := g1.trans g145
  refine ⟨_, rfl, cF (by simp) (cF rfl (awake_c.mono ?_))⟩
  rintro e w48 ⟨rfl, g48⟩
  have g148 := g145.trans g48
  have g048 := g1.trans g148
  refine ⟨_, rfl, cF rfl ⟨[_, _], rfl, two (g148.cell k0) (g148.cell k1), (refRest_c (sb.gr g048) oa hbl.1 hbl.2.1).mono ?_⟩⟩
  rintro e w52 ⟨l5, p5, rfl, hE5, hl5, g52⟩
  obtain ⟨rfl, rfl⟩ := hE.det hE5
  have g152 := g148.trans g52
  have g052 := g1.trans g152
  rcases hJ with ⟨hne, rfl, rfl⟩ | ⟨h0, rfl, st⟩
  · refine ⟨_, rfl, cT ?_ ⟨_, _, _, rfl, cT rfl ⟨rfl, g052⟩⟩⟩
    rw [decide_eq_false (by omega)]
    rfl
  · have hT := ears_tree hE hI (hsing.1 h0)
    refine ⟨_, rfl, cF ?_ (cT rfl ⟨[_, _], rfl, two (g152.cell k0) (g152.cell k1), (refTree_c (sb.gr g052) (st.grow (((((g1526.trans g31).trans g41).trans g45).trans g48).trans g52)) oa hbl.2.1).mono ?_⟩)⟩
    · rw [decide_eq_true (by omega)]
      rfl
    · rintro e w59 ⟨c6, rfl, hc6, g59⟩
      rw [hc6.2 hT]
      exact ⟨_, rfl, rfl, g052.trans g59⟩
end Go.Proofs.Ytddpjdlhgggbkaa
