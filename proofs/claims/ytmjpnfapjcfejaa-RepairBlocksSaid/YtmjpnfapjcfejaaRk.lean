/- Contracts: the reference's valid books, blocks, repairs. No condition. -/
import Derived.Test.YtmjpnfapjcfejaaRh
namespace Go.Proofs.Ytmjpnfapjcfejaa
open Go Go.RowKit VC
set_option linter.unusedSimpArgs false
set_option linter.unusedVariables false

theorem bitR {s i : Nat} (h : i < 63) : (iAnd .i64 (iShr .i64 (s : Int) (i : Int)) 1 = 1) ↔ s.testBit i = true := by
  rw [iBit _ (by omega), ibit_nat]
  cases s.testBit i <;> simp
theorem refSchema_c {w : World} {sv : Value} {s : List Int} (hs : SlI w sv s) : Calls Try.prog 8 #[sv] w (Ret w (.bool (okS s))) := by
  refine f8_calls _ ?_
  have hle := hs.len_le
  refine hs.ln ⟨fun t w' => ∃ k : Nat, t = k ∧ k ≤ s.length ∧ w' = w ∧ ∀ j (hj : j < s.length), j < k → 0 ≤ s[j] ∧ s[j] ≤ 3, fun t _ => s.length - t.toNat, ⟨0, rfl, by omega, rfl, fun j _ h => by omega⟩, ?_⟩
  rintro - t w8 ⟨k, rfl, hk, rfl, hok⟩
  have bad : ∀ (hkl : k < s.length), ¬ (0 ≤ s[k] ∧ s[k] ≤ 3) → okS s = false := fun hkl h => by
    rw [← Bool.not_eq_true]
    exact fun h2 => h ((okS_out h2).2 _ (List.getElem_mem hkl))
  refine condD (fun hlt => ?_) fun hge => ?_
  · have hkl : k < s.length := by omega
    refine hs.rd rfl hkl (condD (fun h => ⟨by rw [bad hkl (by omega)], Grow.refl _⟩) fun h0 => condD (fun h => ⟨by rw [bad hkl (by omega)], Grow.refl _⟩) fun h3 => ⟨by unfold inR; omega, ⟨k + 1, by omega, by omega, rfl, fun j hj hlt2 => ?_⟩, by dsimp only; omega⟩)
    by_cases e : j = k
    · subst e; omega
    · exact hok j hj (by omega)
  · refine hs.ln ⟨?_, Grow.refl _⟩
    have hall : (s.all fun x => decide (0 ≤ x) && decide (x ≤ 3)) = true := List.all_eq_true.2 fun x hx => by
      obtain ⟨j, hj, rfl⟩ := List.getElem_of_mem hx
      have := hok j hj (by omega)
      simp [this]
    have e : decide ((s.length : Int) = 6) = decide (s.length = 6) := by
      rw [decide_eq_decide]; omega
    rw [okS, hall, Bool.and_true, e]
theorem okP_snoc (L : List Atm) (f : Atm) : okP (L ++ [f]) = true ↔ okP L = true ∧ ∀ g ∈ L, g.1 = f.1 → g.2.length = f.2.length ∧ g.2 ≠ f.2 := by
  rw [okP_iff, okP_iff, List.pairwise_append]
  simp [List.pairwise_singleton]
theorem okP_bad {L : List Atm} {j k : Nat} (hj : j < k) (hk : k < L.length) (e : L[k].1 = L[j].1) (h : L[k].2.length ≠ L[j].2.length ∨ L[k].2 = L[j].2) : okP L = false := by
  rw [← Bool.not_eq_true, okP_iff]
  intro hp
  have := List.pairwise_iff_getElem.1 hp j k (by omega) hk hj e.symm
  rcases h with h | h
  · exact h this.1.symm
  · exact this.2 h.symm
theorem okR_ref (s : List Int) (L : List Atm) (hP : okP L = true) : (okS s && okFs L && decide (L.length ≤ 12)) = okR s L := by
  unfold okR okFs
  rw [hP, Bool.and_true, Bool.eq_iff_iff]
  simp only [Bool.and_eq_true, decide_eq_true_eq]
  constructor
  · rintro ⟨⟨h1, h2, h3⟩, h4⟩
    exact ⟨⟨h1, h4⟩, h3⟩
  · rintro ⟨⟨h1, h4⟩, h3⟩
    exact ⟨⟨h1, by omega, h3⟩, h4⟩
theorem refValidR_c {w : World} {sv fv : Value} {s : List Int} {L : List Atm} (hs : SlI w sv s) (hl : SlA w fv L) : Calls Try.prog 18 #[sv, fv] w (Ret w (.bool (okR s L))) := by
  refine f18_calls _ _ ?_
  have hle := SlX.len_le hl
  refine SlX.ln hl ⟨fun t w' => ∃ k : Nat, t = k ∧ k ≤ L.length ∧ okP (L.take k) = true ∧ Grow w w', fun t _ => L.length - t.toNat, ⟨0, rfl, by omega, rfl, Grow.refl _⟩, ?_⟩
  rintro - t w8 ⟨k, rfl, hk, hok, g8⟩
  refine condD (fun hlt => ?_) fun hge => ?_
  · have hkl : k < L.length := by omega
    refine locR hl g8 rfl hkl rfl fun w14 u g14 s14 hu hc => ?_
    have g014 := g8.trans g14
    obtain ⟨ua, un, uc, ue, ul, uh, um, ub, hv'⟩ := SlX.upto hl (ik := .i64) (K := fun x => SlA w x (L.take k)) rfl (Nat.le_of_lt hkl) fun v' hv' => hv'
    have hlk : (L.take k).length = k := by rw [List.length_take]; omega
    refine ⟨ua, un, uc, ue, ul, uh, um, ub, SlX.ln hv' ?_⟩
    rw [hlk]
    refine ⟨fun t w' => ∃ j : Nat, t = j ∧ j ≤ k ∧ (∀ i (hi : i < L.length), i < j → L[i].1 = L[k].1 → L[i].2.length = L[k].2.length ∧ L[i].2 ≠ L[k].2) ∧ Grow w14 w', fun t _ => k - t.toNat, ⟨0, rfl, by omega, fun i _ h => by omega, Grow.refl _⟩, ?_⟩
    rintro - t w29 ⟨j, rfl, hj, hin, g29⟩
    refine condD (fun hlt2 => ?_) fun hge2 => ?_
    · have hjk : j < k := by omega
      have hjl : j < L.length := by omega
      refine locR hv' (g014.trans g29) rfl (by rw [hlk]; exact hjk) rfl fun w35 u2 g35 s35 hu2 hc2 => ?_
      rw [List.getElem_take] at hu2 hc2
      have hc35 := hc.grow (g29.trans g35)
      have g035 := (g014.trans g29).trans g35
      have next : ∀ {w'}, (L[j].1 = L[k].1 → L[j].2.length = L[k].2.length ∧ L[j].2 ≠ L[k].2) → Grow w35 w' → inR ((j : Int) + 1) ∧ ((∃ j' : Nat, (j : Int) + 1 = j' ∧ j' ≤ k ∧ (∀ i (hi : i < L.length), i < j' → L[i].1 = L[k].1 → L[i].2.length = L[k].2.length ∧ L[i].2 ≠ L[k].2) ∧ Grow w14 w') ∧ k - Int.toNat ((j : Int) + 1) < k - Int.toNat (j : Int)) := fun {w'} h g => ⟨by unfold inR; omega, ⟨j + 1, by omega, by omega, fun i hi hlt3 => by
        by_cases e : i = j
        · subst e; exact h
        · exact hin i hi (by omega), (g29.trans g35).trans g⟩, by omega⟩
      refine ⟨_, hc35.cell (j := 0) rfl, _, hc2.cell (j := 0) rfl, condD (fun he => ?_) fun hne => next (fun e => absurd e.symm hne) (Grow.refl _)⟩
      refine ⟨_, hc35.cell (j := 1) rfl, hu.ln ⟨_, hc2.cell (j := 1) rfl, hu2.ln (condP_i (fun hl2 => ⟨?_, g035⟩) fun hl2 => ?_)⟩⟩
      · have : ¬ L[k].2.length = L[j].2.length := by simp at hl2; omega
        rw [okR, okP_bad hjk hkl he (.inl this), Bool.and_false]
      · have hll : L[k].2.length = L[j].2.length := by simp at hl2; omega
        refine ⟨_, hc35.cell (j := 1) rfl, _, hc2.cell (j := 1) rfl, (refEqual_c (hu.grow g035) (hu2.grow g035)).mono ?_⟩
        rintro e w49 ⟨rfl, rfl⟩
        refine ⟨_, rfl, condD (fun he2 => ⟨?_, g035⟩) fun hne2 => next (fun _ => ⟨hll.symm, fun h => hne2 h.symm⟩) (Grow.refl _)⟩
        rw [okR, okP_bad hjk hkl he (.inr he2), Bool.and_false]
    · have hjk : j = k := by omega
      subst hjk
      refine ⟨by unfold inR; omega, ⟨j + 1, by omega, by omega, ?_, g014.trans g29⟩, by dsimp only; omega⟩
      rw [List.take_succ_eq_append_getElem hkl, okP_snoc]
      refine ⟨hok, fun g hg e => ?_⟩
      obtain ⟨i, hi, rfl⟩ := List.getElem_of_mem hg
      rw [List.getElem_take] at e ⊢
      rw [hlk] at hi
      exact hin i (by omega) hi e
  · have hkl : k = L.length := by omega
    subst hkl
    rw [List.take_length] at hok
    refine (refSchema_c (hs.grow g8)).mono ?_
    rintro e w52 ⟨rfl, g52⟩
    have e0 := okR_ref s L hok
    refine ⟨_, rfl, condP_i (fun h1 => ?_) fun h1 => ⟨?_, g8.trans g52⟩⟩
    · refine (refFacts_c (hl.gr (g8.trans g52))).mono ?_
      rintro e w55 ⟨rfl, g55⟩
      refine ⟨_, rfl, condP_i (fun h2 => SlX.ln hl ⟨?_, (g8.trans g52).trans g55⟩) fun h2 => ⟨?_, (g8.trans g52).trans g55⟩⟩
      · rw [h1, h2, Bool.true_and, Bool.true_and] at e0
        rw [← e0, decide_eq_decide.2 (show ((L.length : Int) ≤ 12) ↔ L.length ≤ 12 by omega)]
      · rw [h2, Bool.and_false, Bool.false_and] at e0
        rw [← e0]
    · rw [h1, Bool.false_and, Bool.false_and] at e0
      rw [← e0]
theorem together_c {w : World} {sv u u' : Value} {s : List Int} {r r' : Int} {xs ys : List Int} (hs : SlI w sv s) (hS : okS s = true) (h0 : 0 ≤ r) (h5 : r ≤ 5) (hu : SlI w u xs) (hu' : SlI w u' ys) (hlen : r = r' → xs.length = ys.length) :
    Calls Try.prog 36 #[sv, .agg #[.int .i64 r, u], .agg #[.int .i64 r', u']] w (Ret w (.bool (decide (kF (klS s) (r, xs) = kF (klS s) (r', ys))))) := by
  refine f36_calls _ _ _ ?_
  refine ⟨_, rfl, fun w1 hw1 => ⟨_, rfl, fun w3 hw3 => ?_⟩⟩
  have g1 := alloc_grow hw1
  have g3 := alloc_grow hw3
  have g03 := g1.trans g3
  have hF := (RecV.new hw1).grow g3
  have hG := RecV.new hw3
  refine ⟨_, hF.cell (j := 0) rfl, _, hG.cell (j := 0) rfl, condP_i (fun hne => ⟨?_, g03⟩) fun heq => ?_⟩
  · have hne : ¬ r = r' := by simpa using hne
    rw [decide_eq_false fun e => hne (kF_rel e)]
  have heq : r = r' := by simpa using heq
  subst heq
  have hlen := hlen rfl
  obtain ⟨hi, e, h3⟩ := okS_get hS h0 h5
  refine ⟨_, hF.cell (j := 0) rfl, (hs.grow g03).rd (by omega) hi ⟨_, hF.cell (j := 1) rfl, (hu.grow g03).ln fun d => ?_⟩⟩
  have gd : Grow w3 (dr w3 d.1) := (Grow.refl w3).dr d.1
  have ez : (if (xs.length : Int) < s[r.toNat] then (xs.length : Int) else s[r.toNat]) = ((min (klS s r) xs.length : Nat) : Int) := by
    rw [e]
    split <;> omega
  rw [ez]
  have iff : (kF (klS s) (r, xs) = kF (klS s) (r, ys)) ↔ xs.take (klS s r) = ys.take (klS s r) := by
    unfold kF
    rw [Prod.mk.injEq]
    exact ⟨fun h => h.2, fun h2 => ⟨rfl, h2⟩⟩
  rw [decide_eq_decide.2 iff]
  refine ⟨fun t w' => ∃ k : Nat, t = k ∧ k ≤ min (klS s r) xs.length ∧ xs.take k = ys.take k ∧ Grow w3 w', fun t _ => min (klS s r) xs.length - t.toNat, ⟨0, rfl, by omega, rfl, gd⟩, ?_⟩
  rintro - t w21 ⟨k, rfl, hk, hpre, g21⟩
  have g021 := g03.trans g21
  refine condD (fun hlt => ?_) fun hge => ?_
  · have hkx : k < xs.length := by omega
    have hky : k < ys.length := by omega
    refine ⟨_, (hF.grow g21).cell (j := 1) rfl, (hu.grow g021).rd rfl hkx ⟨_, (hG.grow g21).cell (j := 1) rfl, (hu'.grow g021).rd rfl hky fun d2 => condP_i (fun hne => ⟨?_, g021.dr d2.1⟩) fun heq => ?_⟩⟩
    · have hne : ¬ xs[k] = ys[k] := by simpa using hne
      rw [decide_eq_false]
      intro h
      have h1 : (xs.take (klS s r))[k]? = (ys.take (klS s r))[k]? := by rw [h]
      rw [List.getElem?_take, List.getElem?_take, if_pos (by omega), if_pos (by omega), List.getElem?_eq_getElem hkx, List.getElem?_eq_getElem hky] at h1
      exact hne (Option.some.inj h1)
    · have heq : xs[k] = ys[k] := by simpa using heq
      refine ⟨by unfold inR; omega, ⟨k + 1, by omega, by omega, ?_, g21.dr d2.1⟩, by dsimp only; omega⟩
      rw [List.take_succ_eq_append_getElem hkx, List.take_succ_eq_append_getElem hky, hpre, heq]
  · have hkk : k = min (klS s r) xs.length := by omega
    refine ⟨?_, g021⟩
    rw [decide_eq_true]
    have := hpre
    rw [hkk, take_min, hlen, take_min] at this
    exact this
theorem okR_len {s : List Int} {L : List Atm} (h : okR s L = true) {i j : Nat} (hi : i < L.length) (hj : j < L.length) (e : L[i].1 = L[j].1) : L[i].2.length = L[j].2.length := (okR_out h).2.2.2.2 _ (List.getElem_mem hi) _ (List.getElem_mem hj) e
theorem all_c {w : World} {sv fv : Value} {s : List Int} {L : List Atm} (hs : SlI w sv s) (hl : SlA w fv L) (hR : okR s L = true) : Calls Try.prog 21 #[sv, fv] w fun e w' => ∃ v, e = .returned v ∧ SlI w' v (natI (allR (klS s) L)) ∧ Grow w w' := by
  refine f21_calls _ _ ?_
  have h12 := (okR_out hR).2.1
  have hpow : 2 ^ L.length ≤ 2 ^ 12 := Nat.pow_le_pow_right (by omega) h12
  obtain ⟨n, hn⟩ : ∃ n, n = L.length := ⟨_, rfl⟩
  refine SlX.ln hl ⟨by omega, ?_⟩
  rw [iShl_one (by omega)]
  refine ⟨fun out t w' => ∃ k : Nat, t = k ∧ k ≤ 2 ^ L.length ∧ OwnI w' w.heap.size out (natI ((List.range k).filter (repB (klS s) L))) ∧ Grow w w', fun _ t _ => 2 ^ L.length - t.toNat, ⟨0, rfl, Nat.zero_le _, Own.nil _ _ _ _, Grow.refl _⟩, ?_⟩
  rintro - out t w9 ⟨k, rfl, hk, ho, g9⟩
  refine condD (fun hlt => ?_) fun hge => ?_
  · have hk2 : k < 2 ^ L.length := by omega
    refine SlX.ln hl ⟨fun is t w' => ∃ i : Nat, t = i ∧ i ≤ L.length ∧ is = (List.range i).all (fun i => decide (inBlk (klS s) L k i = 1)) ∧ Grow w9 w', fun _ t _ => L.length - t.toNat, ⟨0, rfl, by omega, rfl, Grow.refl _⟩, ?_⟩
    rintro - is t w18 ⟨i, rfl, hi, rfl, g18⟩
    have g018 := g9.trans g18
    refine condD (fun hlt2 => ?_) fun hge2 => ?_
    · have hil : i < L.length := by omega
      refine locR hl g018 rfl hil rfl fun w24 u g24 s24 hu hc => ?_
      have g024 := g018.trans g24
      refine SlX.ln hl ⟨fun cn t w' => ∃ j : Nat, t = j ∧ j ≤ L.length ∧ cn = (((List.range j).filter fun j => k.testBit j && sameB (klS s) L i j).length : Int) ∧ Grow w24 w', fun _ t _ => L.length - t.toNat, ⟨0, rfl, by omega, rfl, Grow.refl _⟩, ?_⟩
      rintro - cn t w34 ⟨j, rfl, hj, rfl, g34⟩
      have g034 := g024.trans g34
      have hcl : ((List.range j).filter fun j => k.testBit j && sameB (klS s) L i j).length ≤ 12 := by
        have := List.length_filter_le (fun j => k.testBit j && sameB (klS s) L i j) (List.range j)
        rw [List.length_range] at this
        omega
      refine condD (fun hlt3 => ?_) fun hge3 => ?_
      · have hjl : j < L.length := by omega
        refine locR hl g034 rfl hjl rfl fun w40 u2 g40 s40 hu2 hc2 => ⟨by omega, ?_⟩
        have g040 := g034.trans g40
        have step : ∀ b, (k.testBit j && sameB (klS s) L i j) = b → (((List.range (j + 1)).filter fun j => k.testBit j && sameB (klS s) L i j).length : Int) = (((List.range j).filter fun j => k.testBit j && sameB (klS s) L i j).length : Int) + (if b then 1 else 0) := fun b hb => by
          rw [List.range_succ, List.filter_append, List.length_append, List.filter_cons, hb]
          cases b <;> simp
        refine condD (fun hb => ?_) fun hb => ?_
        · have hb := (bitR (by omega)).1 hb
          have hr := okF_rel (okR_all hR _ (List.getElem_mem hil))
          refine ⟨[_, _], rfl, (hc.grow (g34.trans g40)).all, [_, _], rfl, hc2.all, (together_c (hs.grow g040) (okR_out hR).1 hr.1 hr.2 (hu.grow g040) (hu2.grow g040) (okR_len hR hil hjl)).mono ?_⟩
          rintro e w44 ⟨rfl, g44⟩
          have esb : decide (kF (klS s) (L[i].1, L[i].2) = kF (klS s) (L[j].1, L[j].2)) = sameB (klS s) L i j := by
            unfold sameB
            rw [fa_get hil, fa_get hjl]
          refine ⟨_, rfl, condP_i (fun h => ?_) fun h => ?_⟩
          · rw [esb] at h
            have := step true (by rw [hb, h]; rfl)
            rw [if_pos rfl] at this
            rw [← this]
            exact ⟨by unfold inR; omega, by unfold inR; omega, ⟨j + 1, by omega, by omega, rfl, (g34.trans g40).trans g44⟩, by dsimp only; omega⟩
          · rw [esb] at h
            have := step false (by rw [hb, h]; rfl)
            exact ⟨by unfold inR; omega, ⟨j + 1, by omega, by omega, by rw [this]; simp, (g34.trans g40).trans g44⟩, by dsimp only; omega⟩
        · have hb : k.testBit j = false := by
            rw [← Bool.not_eq_true]
            exact fun h => hb ((bitR (by omega)).2 h)
          have := step false (by rw [hb]; rfl)
          exact ⟨by unfold inR; omega, ⟨j + 1, by omega, by omega, by rw [this]; simp, g34.trans g40⟩, by dsimp only; omega⟩
      · have hjl : j = L.length := by omega
        subst hjl
        have ein : ((List.range L.length).filter fun j => k.testBit j && sameB (klS s) L i j).length = inBlk (klS s) L k i := rfl
        rw [ein]
        have e1 : decide ((inBlk (klS s) L k i : Int) = 1) = decide (inBlk (klS s) L k i = 1) := decide_eq_decide.2 (by omega)
        rw [e1]
        have eall : ((List.range (i + 1)).all fun i => decide (inBlk (klS s) L k i = 1)) = (((List.range i).all fun i => decide (inBlk (klS s) L k i = 1)) && decide (inBlk (klS s) L k i = 1)) := by
          rw [List.range_succ, List.all_append]
          simp
        refine condP_i (fun hall => ⟨by unfold inR; omega, ⟨i + 1, by omega, by omega, ?_, (g18.trans g24).trans g34⟩, by dsimp only; omega⟩) fun hall => ⟨by unfold inR; omega, ⟨i + 1, by omega, by omega, ?_, (g18.trans g24).trans g34⟩, by dsimp only; omega⟩
        · rw [eall, hall, Bool.true_and]
        · rw [eall, hall, Bool.false_and]
    · have hil : i = L.length := by omega
      subst hil
      have erep : ((List.range L.length).all fun i => decide (inBlk (klS s) L k i = 1)) = repB (klS s) L k := rfl
      rw [erep]
      have hol : ((List.range k).filter (repB (klS s) L)).length ≤ 4096 := by
        have := List.length_filter_le (repB (klS s) L) (List.range k)
        rw [List.length_range] at this
        omega
      have hs9 := g9.size
      have hs18 := g18.size
      have efl : ∀ b, repB (klS s) L k = b → (List.range (k + 1)).filter (repB (klS s) L) = (List.range k).filter (repB (klS s) L) ++ (if b then [k] else []) := fun b hb => by
        rw [List.range_succ, List.filter_append, List.filter_cons, hb]
        cases b <;> simp
      refine condP_i (fun hrep w47 hw47 => ?_) fun hrep => ?_
      · refine papp1 el_int hw47 (Own.grow ho g18) rfl (by omega) (by rw [natI_len]; omega) (by omega) fun v' w' ho2 hf2 _ => ⟨by unfold inR; omega, ⟨k + 1, by omega, by omega, ?_, ?_⟩, by dsimp only; omega⟩
        · rw [efl true hrep, if_pos rfl]
          exact ownApp (w := w) ho2
        · exact (g018.trans (alloc_grow hw47)).fr hf2 fun b hb e => by have := (Own.lt ho e.symm).1; omega
      · refine ⟨by unfold inR; omega, ⟨k + 1, by omega, by omega, ?_, g018⟩, by dsimp only; omega⟩
        rw [efl false hrep, if_neg (by decide), List.append_nil]
        exact Own.grow ho g18
  · have hk2 : k = 2 ^ L.length := by omega
    subst hk2
    exact ⟨_, rfl, Own.slI ho, g9⟩
end Go.Proofs.Ytmjpnfapjcfejaa
