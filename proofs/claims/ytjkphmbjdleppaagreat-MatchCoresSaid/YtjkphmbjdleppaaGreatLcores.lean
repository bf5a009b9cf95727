/- The reference's Core; the statement MatchCores, as a contract. No condition. -/
import Derived.Test.YtjkphmbjdleppaaGreatNm
namespace Go.Proofs.YtjkphmbjdleppaaGreat
open Go Go.RowKit VC
set_option linter.unusedSimpArgs false
set_option linter.unusedVariables false

theorem good_len {h : List Int} {b : List Atm} {l : List Nat} (hg : Good h b l) : 1 ≤ l.length := by
  have := okQ_len hg.1
  simpa [partN] using this.1
theorem refCore_c {w : World} {hv bv : Value} {h : List Int} {b : List Atm} (sh : SlI w hv h) (sb : SlA w bv b) :
    Calls Tryz.prog 15 #[.agg #[hv, bv]] w fun e w' => ∃ v o, e = .returned (.tuple #[v, .int .i64 (if okQ h b = true then 0 else 2)]) ∧ (if okQ h b = true then ∃ l, o = some l ∧ FirstG h b l else o = none) ∧ HomV w' v (o.map intL) ∧ Grow w w' := by
  refine f15_calls _ ?_
  refine ⟨_, rfl, fun w1 hw1 => ?_⟩
  have g1 := alloc_grow hw1
  have p0 := boxc hw1 0 hv rfl
  have p1 := boxc hw1 1 bv rfl
  refine ⟨[_, _], rfl, two p0 p1, (refValid_c (sh.grow g1) (sb.gr g1)).mono ?_⟩
  rintro e w4 ⟨rfl, g4⟩
  have g04 := g1.trans g4
  refine ⟨_, rfl, condP_i (fun hn => ?_) fun hk => ?_⟩
  · have hn : ¬ okQ h b = true := by simpa using hn
    exact ⟨_, none, by rw [if_neg hn], by rw [if_neg hn], rfl, g04⟩
  have ok : okQ h b = true := by simpa using hk
  rw [if_pos ok]
  have hbl := okQ_len ok
  refine ⟨fun kk w' => ∃ k : Nat, kk = k ∧ 1 ≤ k ∧ k ≤ b.length + 1 ∧ (∀ m : List Nat, m.Sublist (List.range b.length) → m.length < k → ¬ Good h b m) ∧ Grow w4 w', fun kk _ => b.length + 1 - kk.toNat, ⟨1, rfl, by omega, by omega, fun m _ hm hg => by have := good_len hg; omega, Grow.refl _⟩, ?_⟩
  rintro - kk w11 ⟨k, rfl, hk1, hk2, hno, g11⟩
  have g011 := g04.trans g11
  refine ⟨_, (g4.trans g11).cell p1, SlX.ln (sb.gr g011) (condD (fun hle => ?_) fun hgt => ?_)⟩
  case refine_2 =>
    exfalso
    refine hno (List.range b.length) (List.Sublist.refl _) (by rw [List.length_range]; omega) ?_
    unfold Good
    rw [partN_all]
    exact ⟨ok, _, hom_id ok fun a ha => ha⟩
  refine ⟨_, (g4.trans g11).cell p1, SlX.ln (sb.gr g011) ((chosen_c hbl.2.1 k 0 w11 (by omega) (by omega)).mono ?_)⟩
  rintro e w20 ⟨cv, rfl, hc, g20⟩
  obtain ⟨M, hM⟩ : ∃ M, M = chosenL b.length k 0 := ⟨_, rfl⟩
  have hMl := chosen_len hbl.2.1 k 0
  have h6 : 6 ^ k ≤ 6 ^ 5 := Nat.pow_le_pow_right (by omega) (by omega)
  have h65 : (6 : Nat) ^ 5 = 7776 := by decide
  rw [← hM] at hc hMl
  have g020 := g011.trans g20
  have g120 := (g4.trans g11).trans g20
  refine ⟨cv, rfl, SlX.ln hc.slX ?_⟩
  rw [List.length_map]
  refine ⟨fun t w' => ∃ j : Nat, t = j ∧ j ≤ M.length ∧ (∀ i (hi : i < M.length), i < j → ¬ Good h b M[i]) ∧ Grow w20 w', fun t _ => M.length - t.toNat, ⟨0, rfl, by omega, fun i _ hi => by omega, Grow.refl _⟩, ?_⟩
  rintro - t w30 ⟨j, rfl, hj, hnj, g30⟩
  have g030 := g020.trans g30
  have g130 := g120.trans g30
  refine condD (fun hlt => ?_) fun hge => ?_
  · have hjl : j < M.length := by omega
    have hjm : j < (M.map intL).length := by rw [List.length_map]; exact hjl
    refine SlL.rd1 (OwnX.slX (OwnX.grow hc g30)) rfl hjm fun u hu => ?_
    have eM : (M.map intL)[j] = intL M[j] := by simp
    rw [eM] at hu
    have hmem : M[j] ∈ chosenL b.length k 0 := by rw [← hM]; exact List.getElem_mem hjl
    obtain ⟨hml, hms⟩ := chosen_sub.1 hmem
    have hmi : ∀ i ∈ M[j], i < b.length := (sub_rising hms).2
    have next : ∀ {w'}, ¬ Good h b M[j] → Grow w30 w' → inR ((j : Int) + 1) ∧ ((∃ j' : Nat, (j : Int) + 1 = j' ∧ j' ≤ M.length ∧ (∀ i (hi : i < M.length), i < j' → ¬ Good h b M[i]) ∧ Grow w20 w') ∧ M.length - Int.toNat ((j : Int) + 1) < M.length - Int.toNat (j : Int)) := fun hn g => ⟨by unfold inR; omega, ⟨j + 1, by omega, by omega, (fun i hi hij => by
      rcases Nat.lt_or_ge i j with h1 | h1
      · exact hnj i hi h1
      · have : i = j := by omega
        subst this
        exact hn), g30.trans g⟩, by omega⟩
    refine ⟨[_, _], rfl, two (g130.cell p0) (g130.cell p1), (refPart_c (sh.grow g030) (sb.gr g030) hu hmi (by omega)).mono ?_⟩
    rintro e w36 ⟨pv, rfl, sp, g36⟩
    have g036 := g030.trans g36
    refine ⟨_, rfl, fun w39 hw39 => RecV.init (cs := [hv, pv]) hw39 rfl (by
      intro y hy
      simp at hy
      rcases hy with rfl | rfl
      · exact sh.one.2
      · obtain ⟨a, n, m, rfl, -⟩ := SlX.ln sp (K := fun _ => True) trivial
        rfl) fun w40 g40 s40 hC => ⟨[_, _], rfl, hC.all, (refValid_c (sh.grow (g036.trans g40)) (sp.gr g40)).mono ?_⟩⟩
    rintro e w43 ⟨rfl, g43⟩
    have g040 := g036.trans g40
    have g043 := g040.trans g43
    have g143 := ((g130.trans g36).trans g40).trans g43
    have g3043 := (g36.trans g40).trans g43
    refine ⟨_, rfl, condP_i (fun hnv => next (fun hg => by rw [hg.1] at hnv; cases hnv) g3043) fun hvv => ?_⟩
    have okp : okQ h (partN b M[j]) = true := by simpa using hvv
    have sp43 := sp.gr (g40.trans g43)
    refine ⟨[_, _], rfl, (hC.grow g43).all, [_, _], rfl, two (g143.cell p0) (g143.cell p1), (refContained_c (sh.grow g043) sp43 (sh.grow g043) (sb.gr g043)).mono ?_⟩
    rintro e w48 ⟨b1, rfl, hb1, g48⟩
    have g148 := g143.trans g48
    have g048 := g043.trans g48
    refine ⟨_, _, rfl, [_, _], rfl, two (g148.cell p0) (g148.cell p1), [_, _], rfl, (hC.grow (g43.trans g48)).all, (refContained_c (sh.grow g048) (sb.gr g048) (sh.grow g048) (sp43.gr g48)).mono ?_⟩
    rintro e w54 ⟨b2, rfl, hb2, g54⟩
    have g3054 := (g3043.trans g48).trans g54
    have ok1 : okPQ h (partN b M[j]) h b = true := okPQ_iff.2 ⟨okp, ok, rfl⟩
    have ok2 : okPQ h b h (partN b M[j]) = true := okPQ_iff.2 ⟨ok, okp, rfl⟩
    refine ⟨_, _, rfl, condP_i (fun ht => cT (hb2.2 ⟨ok2, _, hom_id okp (partN_mem hmi)⟩) ?_) fun hf => next (fun hg => ?_) g3054⟩
    · have hg : Good h b M[j] := ⟨okp, (hb1.1 ht).2⟩
      have hF : FirstG h b M[j] := by
        subst hM
        exact first_at hno hjl hnj hg
      refine ⟨u, some M[j], rfl, by rw [if_pos ok]; exact ⟨_, rfl, hF⟩, ⟨hu.grow g3054, ?_⟩, g030.trans g3054⟩
      obtain ⟨a, m, c, rfl, -⟩ := hu.rd (i := 0) (j := 0) (K := fun _ => True) rfl (by rw [intL_len]; have := good_len hg; omega) trivial
      exact ⟨a, m, c, rfl⟩
    · rw [hb1.2 ⟨ok1, hg.2⟩] at hf
      cases hf
  · have hjl : j = M.length := by omega
    subst hjl
    refine ⟨by unfold inR; omega, ⟨k + 1, by omega, by omega, by omega, fun m hm hml => ?_, (g11.trans g20).trans g30⟩, by dsimp only; omega⟩
    rcases Nat.lt_or_ge m.length k with h1 | h1
    · exact hno m hm h1
    · have hmem : m ∈ M := by rw [hM]; exact chosen_sub.2 ⟨by omega, hm⟩
      obtain ⟨i, hi, rfl⟩ := List.getElem_of_mem hmem
      exact hnj i hi hi
theorem matchCores_c {w : World} {hv bv : Value} {h : List Int} {b : List Atm} (sh : SlI w hv h) (sb : SlA w bv b) : Calls Tryz.prog 4 #[.agg #[hv, bv]] w (Ret w (.bool true)) := by
  refine f4_calls _ ?_
  refine ⟨_, rfl, fun w1 hw1 => ?_⟩
  have g1 := alloc_grow hw1
  have k0 := boxc hw1 0 hv rfl
  have k1 := boxc hw1 1 bv rfl
  refine ⟨[_, _], rfl, two k0 k1, (ofS_c (sh.grow g1) (sb.gr g1)).mono ?_⟩
  rintro e w4 ⟨ha, ba, rfl, sa, ta, g4⟩
  refine ⟨_, rfl, (core_c sa ta).mono ?_⟩
  rw [okQ_tr]
  rintro e w7 ⟨cv, o, rfl, hB, hV, g7⟩
  have g17 := g4.trans g7
  have g07 := g1.trans g17
  refine ⟨_, _, rfl, [_, _], rfl, two (g17.cell k0) (g17.cell k1), (refCore_c (sh.grow g07) (sb.gr g07)).mono ?_⟩
  rintro e w12 ⟨dv, o2, rfl, hD, hV2, g12⟩
  have he : o = o2 := by
    by_cases ok : okQ h b = true
    · rw [if_pos ok] at hB hD
      obtain ⟨eb, eh⟩ := trB_of ok
      rw [eb, eh] at hB
      obtain ⟨c, rfl⟩ := core_some ok hB
      obtain ⟨l, rfl, hF⟩ := hD
      rw [FirstG.uniq hB hF]
    · rw [if_neg ok] at hB hD
      rw [hB, hD]
  subst he
  refine ⟨_, _, rfl, (equal_c (HomV.sl (hV.gr g12)) (HomV.sl hV2)).mono ?_⟩
  rintro e w16 ⟨rfl, g16⟩
  refine ⟨_, rfl, cT (by simp) (cT (by simp) (awake_c.mono ?_))⟩
  rintro e w19 ⟨rfl, g19⟩
  exact ⟨_, rfl, rfl, ((g07.trans g12).trans g16).trans g19⟩
end Go.Proofs.YtjkphmbjdleppaaGreat
