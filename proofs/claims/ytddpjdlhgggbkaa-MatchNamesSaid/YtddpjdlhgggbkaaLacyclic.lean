/- The statement MatchAcyclic, as a contract. No condition. -/
import Derived.Test.YtddpjdlhgggbkaaTi

namespace Go.Proofs.Ytddpjdlhgggbkaa
open Go Go.RowKit VC
set_option linter.unusedSimpArgs false
set_option linter.unusedVariables false

theorem ears_ne {n left : Nat} {V : List Nat} {p : List Int} {l2 : Nat} {p2 : List Int} (h : EarsR n left V p l2 p2) : (∃ i, InS n left i) → ∃ i, InS n l2 i := by
  induction h with
  | stop _ => exact fun h => h
  | @go left V p i k l2 p2 h1 hr ih =>
    intro _
    obtain ⟨hi, hk, ht⟩ := pick_some (Nat.le_refl n) h1
    obtain ⟨b1, b2, b3, b4⟩ := earT_iff.1 ht
    exact ih ⟨k, hk, clr_bit.2 ⟨b3, b1⟩⟩
theorem rest_single {b : List Atm} (h1 : 1 ≤ b.length) (h5 : b.length ≤ 5) {l2 : Nat} {p2 : List Int} (h : EarsR b.length (2 ^ b.length - 1) (varsOf b) (List.replicate b.length (-1)) l2 p2) (hl : l2 < 2 ^ b.length) : restV l2 = 0 ↔ Single b.length l2 := by
  rw [single_pc h5 hl]
  unfold restV
  constructor
  · intro h0
    split at h0
    · assumption
    · obtain ⟨i, hi⟩ := ears_ne h ⟨0, inS_all.2 (by omega)⟩
      rw [h0] at hi
      have := hi.2
      simp at this
  · intro hp
    rw [if_pos hp]
theorem matchAcyclic_c {w : World} {hv bv pv : Value} {h p : List Int} {b : List Atm} (sh : SlI w hv h) (sb : SlA w bv b) (sp : SlI w pv p) : Calls Try.prog 5 #[.agg #[hv, bv], pv] w (Ret w (.bool true)) := by
  refine f5_calls _ _ ?_
  refine ⟨_, rfl, fun w1 hw1 => ?_⟩
  have g1 := alloc_grow hw1
  have k0 := boxc hw1 0 hv rfl
  have k1 := boxc hw1 1 bv rfl
  have aw : ∀ {E : World}, Grow w1 E → Calls Try.prog 13 #[] E fun e w' => ∃ t : Bool, e = .returned (.bool t) ∧ Ret w (.bool true) (.returned (.bool t)) w' := fun g => awake_c.mono (by
    rintro e w' ⟨rfl, g'⟩
    exact ⟨_, rfl, rfl, (g1.trans g).trans g'⟩)
  refine ⟨[_, _], rfl, two k0 k1, (ofS_c (sh.grow g1) (sb.gr g1)).mono ?_⟩
  rintro e w4 ⟨ha, ba, rfl, sa, ta, g4⟩
  refine ⟨_, rfl, (rest_c sa ta).mono ?_⟩
  rw [okQ_tr]
  rintro e w7 ⟨hR, g7⟩
  have g17 := g4.trans g7
  have g07 := g1.trans g17
  by_cases ok : okQ h b = true
  case neg =>
    have okf : okQ h b = false := by simpa using ok
    rcases hR with ⟨-, rfl⟩ | ⟨h9, -⟩
    case inr => exact absurd h9 ok
    refine ⟨_, _, rfl, [_, _], rfl, two (g17.cell k0) (g17.cell k1), (ofS_c (sh.grow g07) (sb.gr g07)).mono ?_⟩
    rintro e w12 ⟨hb, bb, rfl, sb2, tb2, g12⟩
    refine ⟨_, rfl, (joinTree_c sb2 tb2).mono ?_⟩
    rw [okQ_tr]
    rintro e w15 ⟨hJ, g15⟩
    rcases hJ with ⟨-, rfl⟩ | ⟨h9, -⟩
    case inr => exact absurd h9 ok
    have g115 := (g17.trans g12).trans g15
    have g015 := g1.trans g115
    refine ⟨_, _, rfl, [_, _], rfl, two (g115.cell k0) (g115.cell k1), (ofS_c (sh.grow g015) (sb.gr g015)).mono ?_⟩
    rintro e w20 ⟨hc, bc, rfl, sc, tc, g20⟩
    refine ⟨_, rfl, (few_c (sp.grow (g015.trans g20))).mono ?_⟩
    rintro e w23 ⟨fv, rfl, of, g23⟩
    refine ⟨_, rfl, (checkTree_c (sc.grow g23) (tc.gr g23) (Own.slI of)).mono ?_⟩
    rw [okQ_tr]
    rintro e w26 ⟨hC, g26⟩
    rcases hC with ⟨-, rfl⟩ | ⟨h9, -⟩
    case inr => exact absurd h9 ok
    exact ⟨_, _, rfl, cT rfl (cT rfl (cT rfl (cT rfl (aw (((g115.trans g20).trans g23).trans g26)))))⟩
  obtain ⟨eb, eh⟩ := trB_of ok
  have hbl := okQ_len ok
  rw [eb] at hR
  rcases hR with ⟨h9, -⟩ | ⟨-, l2, p2, rfl, hE, hl⟩
  case inl => rw [ok] at h9; cases h9
  refine ⟨_, _, rfl, [_, _], rfl, two (g17.cell k0) (g17.cell k1), (ofS_c (sh.grow g07) (sb.gr g07)).mono ?_⟩
  rintro e w12 ⟨hb, bb, rfl, sb2, tb2, g12⟩
  rw [eh] at sb2
  rw [eb] at tb2
  refine ⟨_, rfl, (joinTree_c sb2 tb2).mono ?_⟩
  rintro e w15 ⟨hJ, g15⟩
  have g115 := (g17.trans g12).trans g15
  have g015 := g1.trans g115
  have hsing := rest_single hbl.1 hbl.2.1 hE hl
  have hI := earI_init b
  rcases hJ with ⟨h9, -⟩ | ⟨-, l3, p3, hE3, hl3, hJ⟩
  case inl => rw [ok] at h9; cases h9
  obtain ⟨rfl, rfl⟩ := hE.det hE3
  have chk : ∀ {E : World} {hx bx vx : Value} {q : List Int}, SlI E hx h → SlA E bx b → SlI E vx q → Calls Try.prog 15 #[.agg #[hx, bx], vx] E fun e w' => ∃ c : Bool, e = .returned (.tuple #[.bool c, .int .i64 0]) ∧ (c = true ↔ TreeS (hasV b) b.length q) ∧ Grow E w' := fun s t u => (checkTree_c s t u).mono (by
    rintro e E' ⟨hC, g'⟩
    rcases hC with ⟨h9, -⟩ | ⟨-, c, rfl, hc⟩
    · rw [ok] at h9; cases h9
    · exact ⟨c, rfl, hc, g'⟩)
  rcases hJ with ⟨hne, rfl⟩ | ⟨h0, tv, rfl, st⟩
  · refine ⟨_, _, rfl, [_, _], rfl, two (g115.cell k0) (g115.cell k1), (ofS_c (sh.grow g015) (sb.gr g015)).mono ?_⟩
    rintro e w20 ⟨hc, bc, rfl, sc, tc, g20⟩
    rw [eh] at sc
    rw [eb] at tc
    refine ⟨_, rfl, (few_c (sp.grow (g015.trans g20))).mono ?_⟩
    rintro e w23 ⟨fv, rfl, of, g23⟩
    refine ⟨_, rfl, (chk (sc.grow g23) (tc.gr g23) (Own.slI of)).mono ?_⟩
    rintro e w26 ⟨c, rfl, hc, g26⟩
    have hd : decide (((restV l3 : Nat) : Int) = 0) = false := decide_eq_false (by omega)
    refine ⟨_, _, rfl, cF rfl (cF (by rw [hd]; rfl) (cT rfl (cF rfl (cF rfl (condP_i (fun ht => ?_) fun hf => cT (by rw [hd]; rfl) (aw (((g115.trans g20).trans g23).trans g26)))))))⟩
    exfalso
    have h8 : ∀ i x, hasV b i x = true → x < 8 := fun i x hx => by
      unfold hasV at hx
      refine Nat.lt_of_not_le fun hge => ?_
      rcases Nat.lt_or_ge i b.length with hi | hi
      · have hlt : (varsOf b).getD i 0 < 256 := by
          simp only [varsOf, List.getD, List.getElem?_map, List.getElem?_eq_getElem hi, Option.map_some, Option.getD_some]
          exact varsL_lt (okB_term ok _ (List.getElem_mem hi))
        rw [Nat.testBit_lt_two_pow (Nat.lt_of_lt_of_le hlt (Nat.pow_le_pow_right (by omega) hge : 2 ^ 8 ≤ 2 ^ x))] at hx
        cases hx
      · have : (varsOf b).getD i 0 = 0 := by simp [varsOf, List.getD, hi]
        rw [this] at hx
        simp at hx
    have hT := hc.1 ht
    obtain ⟨m, hm⟩ := tree_elim hbl.1 h8 hT _ (2 ^ b.length - 1) rfl (fun i hi k hk => inS_all.2 (by have := hT.rng i hi.1; omega)) ⟨0, inS_all.2 (by omega)⟩
    exact hne (hsing.2 ((ears_single hE hI).2 ⟨m, hm⟩))
  · refine ⟨_, _, rfl, [_, _], rfl, two (g115.cell k0) (g115.cell k1), (ofS_c (sh.grow g015) (sb.gr g015)).mono ?_⟩
    rintro e w20 ⟨hc, bc, rfl, sc, tc, g20⟩
    rw [eh] at sc
    rw [eb] at tc
    refine ⟨_, rfl, (few_c (sp.grow (g015.trans g20))).mono ?_⟩
    rintro e w23 ⟨fv, rfl, of, g23⟩
    refine ⟨_, rfl, (chk (sc.grow g23) (tc.gr g23) (Own.slI of)).mono ?_⟩
    rintro e w26 ⟨c, rfl, hc, g26⟩
    have g15_26 := (g20.trans g23).trans g26
    have g126 := g115.trans g15_26
    have g026 := g1.trans g126
    have hT := ears_tree hE hI (hsing.1 h0)
    have hd : decide (((restV l3 : Nat) : Int) = 0) = true := decide_eq_true (by omega)
    refine ⟨_, _, rfl, cF rfl (cF (by rw [hd]; rfl) (cF rfl (cF rfl (condP_i (fun _ => cF (by rw [hd]; rfl) ?_) fun _ => ?_))))⟩
    all_goals
      refine cF (by rw [hd]; rfl) ⟨[_, _], rfl, two (g126.cell k0) (g126.cell k1), (ofS_c (sh.grow g026) (sb.gr g026)).mono ?_⟩
      rintro e w37 ⟨hx, bx, rfl, sx, tx, g37⟩
      rw [eh] at sx
      rw [eb] at tx
      refine ⟨_, rfl, (chk sx tx (st.grow (g15_26.trans g37))).mono ?_⟩
      rintro e w40 ⟨c2, rfl, hc2, g40⟩
      exact ⟨_, _, rfl, cT (hc2.2 hT) (cT rfl (aw ((g126.trans g37).trans g40)))⟩
end Go.Proofs.Ytddpjdlhgggbkaa
