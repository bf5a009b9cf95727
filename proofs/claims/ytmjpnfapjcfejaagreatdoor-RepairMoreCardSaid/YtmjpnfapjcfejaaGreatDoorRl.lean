/- Contracts: the reference's valid books, blocks, repairs. No condition. -/
import Derived.Test.YtmjpnfapjcfejaaGreatDoorRh
import Derived.Test.YtmjpnfapjcfejaaGreatDoorRj
namespace Go.Proofs.YtmjpnfapjcfejaaGreatDoor
open Go Go.RowKit VC
set_option linter.unusedSimpArgs false
set_option linter.unusedVariables false

theorem bitR {s i : Nat} (h : i < 63) : (iAnd .i64 (iShr .i64 (s : Int) (i : Int)) 1 = 1) ↔ s.testBit i = true := by
  rw [iBit _ (by omega), ibit_nat]
  cases s.testBit i <;> simp
theorem refSchema_c {w : World} {sv : Value} {s : List Int} (hs : SlI w sv s) : Calls Tryz.prog 74 #[sv] w (Ret w (.bool (okS s))) := by
  refine f74_calls _ ?_
  have hle := hs.len_le
  refine hs.ln ⟨fun t w' => ∃ k : Nat, t = k ∧ k ≤ s.length ∧ w' = w ∧ ∀ j (hj : j < s.length), j < k → 0 ≤ s[j] ∧ s[j] ≤ 3, fun t _ => s.length - t.toNat, ⟨0, rfl, by omega, rfl, fun j _ h => by omega⟩, ?_⟩
  rintro - t w8 ⟨k, rfl, hk, rfl, hok⟩
  have bad : ∀ (hkl : k < s.length), ¬ (0 ≤ s[k] ∧ s[k] ≤ 3) → okS s = false := fun hkl h => by
    rw [← Bool.not_eq_true]
    exact fun h2 => h ((okS_out h2).2 _ (List.getElem_mem hkl))
  refine condD (fun hlt => ?_) fun hge => ?_
  · have hkl : k < s.length := by omega
    refine hs.rd rfl hkl (condD (fun h => ⟨by rw [bad hkl (by omega)], Grow.refl _⟩) fun h0 => condD (fun h => ⟨by rw [bad hkl (by omega)], Grow.refl _⟩) fun h3 => ⟨by unfold inR; omega, ⟨k + 1, by omega, by omega, rfl, fun j hj hlt2 => ?_⟩, by dsimp only; omega⟩)
    by_cases e : j = k
    · subst e; omega
    · exact hok j hj (by omega)
  · refine hs.ln ⟨?_, Grow.refl _⟩
    have hall : (s.all fun x => decide (0 ≤ x) && decide (x ≤ 3)) = true := List.all_eq_true.2 fun x hx => by
      obtain ⟨j, hj, rfl⟩ := List.getElem_of_mem hx
      have := hok j hj (by omega)
      simp [this]
    have e : decide ((s.length : Int) = 6) = decide (s.length = 6) := by
      rw [decide_eq_decide]; omega
    rw [okS, hall, Bool.and_true, e]
theorem okP_snoc (L : List Atm) (f : Atm) : okP (L ++ [f]) = true ↔ okP L = true ∧ ∀ g ∈ L, g.1 = f.1 → g.2.length = f.2.length ∧ g.2 ≠ f.2 := by
  rw [okP_iff, okP_iff, List.pairwise_append]
  simp [List.pairwise_singleton]
theorem okP_bad {L : List Atm} {j k : Nat} (hj : j < k) (hk : k < L.length) (e : L[k].1 = L[j].1) (h : L[k].2.length ≠ L[j].2.length ∨ L[k].2 = L[j].2) : okP L = false := by
  rw [← Bool.not_eq_true, okP_iff]
  intro hp
  have := List.pairwise_iff_getElem.1 hp j k (by omega) hk hj e.symm
  rcases h with h | h
  · exact h this.1.symm
  · exact this.2 h.symm
theorem okR_ref (s : List Int) (L : List Atm) (hP : okP L = true) : (okS s && okFs L && decide (L.length ≤ 12)) = okR s L := by
  unfold okR okFs
  rw [hP, Bool.and_true, Bool.eq_iff_iff]
  simp only [Bool.and_eq_true, decide_eq_true_eq]
  constructor
  · rintro ⟨⟨h1, h2, h3⟩, h4⟩
    exact ⟨⟨h1, h4⟩, h3⟩
  · rintro ⟨⟨h1, h4⟩, h3⟩
    exact ⟨⟨h1, by omega, h3⟩, h4⟩
theorem refValidR_c {w : World} {sv fv : Value} {s : List Int} {L : List Atm} (hs : SlI w sv s) (hl : SlA w fv L) : Calls Tryz.prog 40 #[sv, fv] w (Ret w (.bool (okR s L))) := by
  refine f40_calls _ _ ?_
  have hle := SlX.len_le hl
  refine SlX.ln hl ⟨fun t w' => ∃ k : Nat, t = k ∧ k ≤ L.length ∧ okP (L.take k) = true ∧ Grow w w', fun t _ => L.length - t.toNat, ⟨0, rfl, by omega, rfl, Grow.refl _⟩, ?_⟩
  rintro - t w8 ⟨k, rfl, hk, hok, g8⟩
  refine condD (fun hlt => ?_) fun hge => ?_
  · have hkl : k < L.length := by omega
    refine locR hl g8 rfl hkl rfl fun w14 u g14 s14 hu hc => ?_
    have g014 := g8.trans g14
    obtain ⟨ua, un, uc, ue, ul, uh, um, ub, hv'⟩ := SlX.upto hl (ik := .i64) (K := fun x => SlA w x (L.take k)) rfl (Nat.le_of_lt hkl) fun v' hv' => hv'
    have hlk : (L.take k).length = k := by rw [List.length_take]; omega
    refine ⟨ua, un, uc, ue, ul, uh, um, ub, SlX.ln hv' ?_⟩
    rw [hlk]
    refine ⟨fun t w' => ∃ j : Nat, t = j ∧ j ≤ k ∧ (∀ i (hi : i < L.length), i < j → L[i].1 = L[k].1 → L[i].2.length = L[k].2.length ∧ L[i].2 ≠ L[k].2) ∧ Grow w14 w', fun t _ => k - t.toNat, ⟨0, rfl, by omega, fun i _ h => by omega, Grow.refl _⟩, ?_⟩
    rintro - t w29 ⟨j, rfl, hj, hin, g29⟩
    refine condD (fun hlt2 => ?_) fun hge2 => ?_
    · have hjk : j < k := by omega
      have hjl : j < L.length := by omega
      refine locR hv' (g014.trans g29) rfl (by rw [hlk]; exact hjk) rfl fun w35 u2 g35 s35 hu2 hc2 => ?_
      rw [List.getElem_take] at hu2 hc2
      have hc35 := hc.grow (g29.trans g35)
      have g035 := (g014.trans g29).trans g35
      have next : ∀ {w'}, (L[j].1 = L[k].1 → L[j].2.length = L[k].2.length ∧ L[j].2 ≠ L[k].2) → Grow w35 w' → inR ((j : Int) + 1) ∧ ((∃ j' : Nat, (j : Int) + 1 = j' ∧ j' ≤ k ∧ (∀ i (hi : i < L.length), i < j' → L[i].1 = L[k].1 → L[i].2.length = L[k].2.length ∧ L[i].2 ≠ L[k].2) ∧ Grow w14 w') ∧ k - Int.toNat ((j : Int) + 1) < k - Int.toNat (j : Int)) := fun {w'} h g => ⟨by unfold inR; omega, ⟨j + 1, by omega, by omega, fun i hi hlt3 => by
        by_cases e : i = j
        · subst e; exact h
        · exact hin i hi (by omega), (g29.trans g35).trans g⟩, by omega⟩
      refine ⟨_, hc35.cell (j := 0) rfl, _, hc2.cell (j := 0) rfl, condD (fun he => ?_) fun hne => next (fun e => absurd e.symm hne) (Grow.refl _)⟩
      refine ⟨_, hc35.cell (j := 1) rfl, hu.ln ⟨_, hc2.cell (j := 1) rfl, hu2.ln (condP_i (fun hl2 => ⟨?_, g035⟩) fun hl2 => ?_)⟩⟩
      · have : ¬ L[k].2.length = L[j].2.length := by simp at hl2; omega
        rw [okR, okP_bad hjk hkl he (.inl this), Bool.and_false]
      · have hll : L[k].2.length = L[j].2.length := by simp at hl2; omega
        refine ⟨_, hc35.cell (j := 1) rfl, _, hc2.cell (j := 1) rfl, (refEqual_c (hu.grow g035) (hu2.grow g035)).mono ?_⟩
        rintro e w49 ⟨rfl, rfl⟩
        refine ⟨_, rfl, condD (fun he2 => ⟨?_, g035⟩) fun hne2 => next (fun _ => ⟨hll.symm, fun h => hne2 h.symm⟩) (Grow.refl _)⟩
        rw [okR, okP_bad hjk hkl he (.inr he2), Bool.and_false]
    · have hjk : j = k := by omega
      subst hjk
      refine ⟨by unfold inR; omega, ⟨j + 1, by omega, by omega, ?_, g014.trans g29⟩, by dsimp only; omega⟩
      rw [List.take_succ_eq_append_getElem hkl, okP_snoc]
      refine ⟨hok, fun g hg e => ?_⟩
      obtain ⟨i, hi, rfl⟩ := List.getElem_of_mem hg
      rw [List.getElem_take] at e ⊢
      rw [hlk] at hi
      exact hin i (by omega) hi e
  · have hkl : k = L.length := by omega
    subst hkl
    rw [List.take_length] at hok
    refine (refSchema_c (hs.grow g8)).mono ?_
    rintro e w52 ⟨rfl, g52⟩
    have e0 := okR_ref s L hok
    refine ⟨_, rfl, condP_i (fun h1 => ?_) fun h1 => ⟨?_, g8.trans g52⟩⟩
    · refine (refFacts_c (hl.gr (g8.trans g52))).mono ?_
      rintro e w55 ⟨rfl, g55⟩
      refine ⟨_, rfl, condP_i (fun h2 => SlX.ln hl ⟨?_, (g8.trans g52).trans g55⟩) fun h2 => ⟨?_, (g8.trans g52).trans g55⟩⟩
      · rw [h1, h2, Bool.true_and, Bool.true_and] at e0
        rw [← e0, decide_eq_decide.2 (show ((L.length : Int) ≤ 12) ↔ L.length ≤ 12 by omega)]
      · rw [h2, Bool.and_false, Bool.false_and] at e0
        rw [← e0]
    · rw [h1, Bool.false_and, Bool.false_and] at e0
      rw [← e0]
theorem together_c {w : World} {sv u u' : Value} {s : List Int} {r r' : Int} {xs ys : List Int} (hs : SlI w sv s) (hS : okS s = true) (h0 : 0 ≤ r) (h5 : r ≤ 5) (hu : SlI w u xs) (hu' : SlI w u' ys) (hlen : r = r' → xs.length = ys.length) :
    Calls Tryz.prog 76 #[sv, .agg #[.int .i64 r, u], .agg #[.int .i64 r', u']] w (Ret w (.bool (decide (kF (klS s) (r, xs) = kF (klS s) (r', ys))))) := by
  refine f76_calls _ _ _ ?_
  refine ⟨_, rfl, fun w1 hw1 => ⟨_, rfl, fun w3 hw3 => ?_⟩⟩
  have g1 := alloc_grow hw1
  have g3 := alloc_grow hw3
  have g03 := g1.trans g3
  have hF := (RecV.new hw1).grow g3
  have hG := RecV.new hw3
  refine ⟨_, hF.cell (j := 0) rfl, _, hG.cell (j := 0) rfl, condP_i (fun hne => ⟨?_, g03⟩) fun heq => ?_⟩
  · have hne : ¬ r = r' := by simpa using hne
    rw [decide_eq_false fun e => hne (kF_rel e)]
  have heq : r = r' := by simpa using heq
  subst heq
  have hlen := hlen rfl
  obtain ⟨hi, e, h3⟩ := okS_get hS h0 h5
  refine ⟨_, hF.cell (j := 0) rfl, (hs.grow g03).rd (by omega) hi ⟨_, hF.cell (j := 1) rfl, (hu.grow g03).ln fun d => ?_⟩⟩
  have gd : Grow w3 (dr w3 d.1) := (Grow.refl w3).dr d.1
  have ez : (if (xs.length : Int) < s[r.toNat] then (xs.length : Int) else s[r.toNat]) = ((min (klS s r) xs.length : Nat) : Int) := by
    rw [e]
    split <;> omega
  rw [ez]
  have iff : (kF (klS s) (r, xs) = kF (klS s) (r, ys)) ↔ xs.take (klS s r) = ys.take (klS s r) := by
    unfold kF
    rw [Prod.mk.injEq]
    exact ⟨fun h => h.2, fun h2 => ⟨rfl, h2⟩⟩
  rw [decide_eq_decide.2 iff]
  refine ⟨fun t w' => ∃ k : Nat, t = k ∧ k ≤ min (klS s r) xs.length ∧ xs.take k = ys.take k ∧ Grow w3 w', fun t _ => min (klS s r) xs.length - t.toNat, ⟨0, rfl, by omega, rfl, gd⟩, ?_⟩
  rintro - t w21 ⟨k, rfl, hk, hpre, g21⟩
  have g021 := g03.trans g21
  refine condD (fun hlt => ?_) fun hge => ?_
  · have hkx : k < xs.length := by omega
    have hky : k < ys.length := by omega
    refine ⟨_, (hF.grow g21).cell (j := 1) rfl, (hu.grow g021).rd rfl hkx ⟨_, (hG.grow g21).cell (j := 1) rfl, (hu'.grow g021).rd rfl hky fun d2 => condP_i (fun hne => ⟨?_, g021.dr d2.1⟩) fun heq => ?_⟩⟩
    · have hne : ¬ xs[k] = ys[k] := by simpa using hne
      rw [decide_eq_false]
      intro h
      have h1 : (xs.take (klS s r))[k]? = (ys.take (klS s r))[k]? := by rw [h]
      rw [List.getElem?_take, List.getElem?_take, if_pos (by omega), if_pos (by omega), List.getElem?_eq_getElem hkx, List.getElem?_eq_getElem hky] at h1
      exact hne (Option.some.inj h1)
    · have heq : xs[k] = ys[k] := by simpa using heq
      refine ⟨by unfold inR; omega, ⟨k + 1, by omega, by omega, ?_, g21.dr d2.1⟩, by dsimp only; omega⟩
      rw [List.take_succ_eq_append_getElem hkx, List.take_succ_eq_append_getElem hky, hpre, heq]
  · have hkk : k = min (klS s r) xs.length := by omega
    refine ⟨?_, g021⟩
    rw [decide_eq_true]
    have := hpre
    rw [hkk, take_min, hlen, take_min] at this
    exact this
theorem okR_len {s : List Int} {L : List Atm} (h : okR s L = true) {i j : Nat} (hi : i < L.length) (hj : j < L.length) (e : L[i].1 = L[j].1) : L[i].2.length = L[j].2.length := (okR_out h).2.2.2.2 _ (List.getElem_mem hi) _ (List.getElem_mem hj) e
theorem all_c {w : World} {sv fv : Value} {s : List Int} {L : List Atm} (hs : SlI w sv s) (hl : SlA w fv L) (hR : okR s L = true) : Calls Tryz.prog 42 #[sv, fv] w fun e w' => ∃ v, e = .returned v ∧ SlI w' v (natI (allR (klS s) L)) ∧ Grow w w' := by
  refine f42_calls _ _ ?_
  have h12 := (okR_out hR).2.1
  have hpow : 2 ^ L.length ≤ 2 ^ 12 := Nat.pow_le_pow_right (by omega) h12
  obtain ⟨n, hn⟩ : ∃ n, n = L.length := ⟨_, rfl⟩
  refine SlX.ln hl ⟨by omega, ?_⟩
  rw [iShl_one (by omega)]
  refine ⟨fun out t w' => ∃ k : Nat, t = k ∧ k ≤ 2 ^ L.length ∧ OwnI w' w.heap.size out (natI ((List.range k).filter (repB (klS s) L))) ∧ Grow w w', fun _ t _ => 2 ^ L.length - t.toNat, ⟨0, rfl, Nat.zero_le _, Own.nil _ _ _ _, Grow.refl _⟩, ?_⟩
  rintro - out t w9 ⟨k, rfl, hk, ho, g9⟩
  refine condD (fun hlt => ?_) fun hge => ?_
  · have hk2 : k < 2 ^ L.length := by omega
    refine SlX.ln hl ⟨fun is t w' => ∃ i : Nat, t = i ∧ i ≤ L.length ∧ is = (List.range i).all (fun i => decide (inBlk (klS s) L k i = 1)) ∧ Grow w9 w', fun _ t _ => L.length - t.toNat, ⟨0, rfl, by omega, rfl, Grow.refl _⟩, ?_⟩
    rintro - is t w18 ⟨i, rfl, hi, rfl, g18⟩
    have g018 := g9.trans g18
    refine condD (fun hlt2 => ?_) fun hge2 => ?_
    · have hil : i < L.length := by omega
      refine locR hl g018 rfl hil rfl fun w24 u g24 s24 hu hc => ?_
      have g024 := g018.trans g24
      refine SlX.ln hl ⟨fun cn t w' => ∃ j : Nat, t = j ∧ j ≤ L.length ∧ cn = (((List.range j).filter fun j => k.testBit j && sameB (klS s) L i j).length : Int) ∧ Grow w24 w', fun _ t _ => L.length - t.toNat, ⟨0, rfl, by omega, rfl, Grow.refl _⟩, ?_⟩
      rintro - cn t w34 ⟨j, rfl, hj, rfl, g34⟩
      have g034 := g024.trans g34
      have hcl : ((List.range j).filter fun j => k.testBit j && sameB (klS s) L i j).length ≤ 12 := by
        have := List.length_filter_le (fun j => k.testBit j && sameB (klS s) L i j) (List.range j)
        rw [List.length_range] at this
        omega
      refine condD (fun hlt3 => ?_) fun hge3 => ?_
      · have hjl : j < L.length := by omega
        refine locR hl g034 rfl hjl rfl fun w40 u2 g40 s40 hu2 hc2 => ⟨by omega, ?_⟩
        have g040 := g034.trans g40
        have step : ∀ b, (k.testBit j && sameB (klS s) L i j) = b → (((List.range (j + 1)).filter fun j => k.testBit j && sameB (klS s) L i j).length : Int) = (((List.range j).filter fun j => k.testBit j && sameB (klS s) L i j).length : Int) + (if b then 1 else 0) := fun b hb => by
          rw [List.range_succ, List.filter_append, List.length_append, List.filter_cons, hb]
          cases b <;> simp
        refine condD (fun hb => ?_) fun hb => ?_
        · have hb := (bitR (by omega)).1 hb
          have hr := okF_rel (okR_all hR _ (List.getElem_mem hil))
          refine ⟨[_, _], rfl, (hc.grow (g34.trans g40)).all, [_, _], rfl, hc2.all, (together_c (hs.grow g040) (okR_out hR).1 hr.1 hr.2 (hu.grow g040) (hu2.grow g040) (okR_len hR hil hjl)).mono ?_⟩
          rintro e w44 ⟨rfl, g44⟩
          have esb : decide (kF (klS s) (L[i].1, L[i].2) = kF (klS s) (L[j].1, L[j].2)) = sameB (klS s) L i j := by
            unfold sameB
            rw [fa_get hil, fa_get hjl]
          refine ⟨_, rfl, condP_i (fun h => ?_) fun h => ?_⟩
          · rw [esb] at h
            have := step true (by rw [hb, h]; rfl)
            rw [if_pos rfl] at this
            rw [← this]
            exact ⟨by unfold inR; omega, by unfold inR; omega, ⟨j + 1, by omega, by omega, rfl, (g34.trans g40).trans g44⟩, by dsimp only; omega⟩
          · rw [esb] at h
            have := step false (by rw [hb, h]; rfl)
            exact ⟨by unfold inR; omega, ⟨j + 1, by omega, by omega, by rw [this]; simp, (g34.trans g40).trans g44⟩, by dsimp only; omega⟩
        · have hb : k.testBit j = false := by
            rw [← Bool.not_eq_true]
            exact fun h => hb ((bitR (by omega)).2 h)
          have := step false (by rw [hb]; rfl)
          exact ⟨by unfold inR; omega, ⟨j + 1, by omega, by omega, by rw [this]; simp, g34.trans g40⟩, by dsimp only; omega⟩
      · have hjl : j = L.length := by omega
        subst hjl
        have ein : ((List.range L.length).filter fun j => k.testBit j && sameB (klS s) L i j).length = inBlk (klS s) L k i := rfl
        rw [ein]
        have e1 : decide ((inBlk (klS s) L k i : Int) = 1) = decide (inBlk (klS s) L k i = 1) := decide_eq_decide.2 (by omega)
        rw [e1]
        have eall : ((List.range (i + 1)).all fun i => decide (inBlk (klS s) L k i = 1)) = (((List.range i).all fun i => decide (inBlk (klS s) L k i = 1)) && decide (inBlk (klS s) L k i = 1)) := by
          rw [List.range_succ, List.all_append]
          simp
        refine condP_i (fun hall => ⟨by unfold inR; omega, ⟨i + 1, by omega, by omega, ?_, (g18.trans g24).trans g34⟩, by dsimp only; omega⟩) fun hall => ⟨by unfold inR; omega, ⟨i + 1, by omega, by omega, ?_, (g18.trans g24).trans g34⟩, by dsimp only; omega⟩
        · rw [eall, hall, Bool.true_and]
        · rw [eall, hall, Bool.false_and]
    · have hil : i = L.length := by omega
      subst hil
      have erep : ((List.range L.length).all fun i => decide (inBlk (klS s) L k i = 1)) = repB (klS s) L k := rfl
      rw [erep]
      have hol : ((List.range k).filter (repB (klS s) L)).length ≤ 4096 := by
        have := List.length_filter_le (repB (klS s) L) (List.range k)
        rw [List.length_range] at this
        omega
      have hs9 := g9.size
      have hs18 := g18.size
      have efl : ∀ b, repB (klS s) L k = b → (List.range (k + 1)).filter (repB (klS s) L) = (List.range k).filter (repB (klS s) L) ++ (if b then [k] else []) := fun b hb => by
        rw [List.range_succ, List.filter_append, List.filter_cons, hb]
        cases b <;> simp
      refine condP_i (fun hrep w47 hw47 => ?_) fun hrep => ?_
      · refine papp1 el_int hw47 (Own.grow ho g18) rfl (by omega) (by rw [natI_len]; omega) (by omega) fun v' w' ho2 hf2 _ => ⟨by unfold inR; omega, ⟨k + 1, by omega, by omega, ?_, ?_⟩, by dsimp only; omega⟩
        · rw [efl true hrep, if_pos rfl]
          exact ownApp (w := w) ho2
        · exact (g018.trans (alloc_grow hw47)).fr hf2 fun b hb e => by have := (Own.lt ho e.symm).1; omega
      · refine ⟨by unfold inR; omega, ⟨k + 1, by omega, by omega, ?_, g018⟩, by dsimp only; omega⟩
        rw [efl false hrep, if_neg (by decide), List.append_nil]
        exact Own.grow ho g18
  · have hk2 : k = 2 ^ L.length := by omega
    subst hk2
    exact ⟨_, rfl, Own.slI ho, g9⟩
end Go.Proofs.YtmjpnfapjcfejaaGreatDoor

/- Contracts: the reference's questions. No condition. -/
namespace Go.Proofs.YtmjpnfapjcfejaaGreatDoor
open Go Go.RowKit VC
set_option linter.unusedSimpArgs false
set_option linter.unusedVariables false

theorem ofM_take (L : List Atm) (m k : Nat) (hk : k < L.length) : (((List.range (k + 1)).filter m.testBit).map (fa L)) = ((List.range k).filter m.testBit).map (fa L) ++ (if m.testBit k then [fa L k] else []) := by
  rw [List.range_succ, List.filter_append, List.map_append, List.filter_cons]
  congr 1
  cases m.testBit k <;> simp
theorem ofR_c {w : World} {fv : Value} {L : List Atm} (hl : SlA w fv L) (h12 : L.length ≤ 12) (m : Nat) :
    Calls Tryz.prog 44 #[fv, .int .i64 (m : Int)] w fun e w' => ∃ v, e = .returned v ∧ SlA w' v (ofM L m) ∧ Grow w w' := by
  refine f44_calls _ _ ?_
  refine SlX.ln hl ⟨fun out t w' => ∃ k : Nat, t = k ∧ k ≤ L.length ∧ OwnX (fun b => w.heap.size ≤ b) 2 repA w' w.heap.size 47 out (((List.range k).filter m.testBit).map (fa L)) ∧ Grow w w', fun _ t _ => L.length - t.toNat, ⟨0, rfl, by omega, OwnX.nil _ _ _, Grow.refl _⟩, ?_⟩
  rintro - out t w9 ⟨k, rfl, hk, ho, g9⟩
  refine condD (fun hlt => ?_) fun hge => ?_
  · have hkl : k < L.length := by omega
    refine locR hl g9 rfl hkl rfl fun w15 u g15 s15 hu hc => ⟨by omega, condD (fun hb => ?_) fun hb => ?_⟩
    · have hb := (bitR (by omega)).1 hb
      have g015 := g9.trans g15
      have hs15 := g015.size
      have hfl := List.length_filter_le m.testBit (List.range k)
      rw [List.length_range] at hfl
      refine ⟨[_, _], rfl, hc.all, bs1 el_fact (by omega) (by omega) (cs := #[.int .i64 (L[k]).1, u]) rfl w15 fun w18 hw18 => ?_⟩
      refine pappX1 el_fact (by omega) (cs := [.int .i64 (L[k]).1, u]) (y := L[k]) (ho.grow g15) hw18 (elx_old hu g015 (fun b hb => hb) fun b hb => (ho.lt hb).1) hs15 (by rw [List.length_map]; omega) (by omega) ?_
      intro v2 w21 ho2 hf2 _ _
      refine ⟨by unfold inR; omega, ⟨k + 1, by omega, by omega, ?_, ?_⟩, by dsimp only; omega⟩
      · rw [ofM_take L m k hkl, hb, if_pos rfl, fa_get hkl]
        exact ho2
      · exact (g015.trans (alloc_grow hw18)).fr hf2 fun b hb e => by have := (ho.lt e.symm).1; omega
    · have hb : m.testBit k = false := by
        rw [← Bool.not_eq_true]
        exact fun h => hb ((bitR (by omega)).2 h)
      refine ⟨by unfold inR; omega, ⟨k + 1, by omega, by omega, ?_, g9.trans g15⟩, by dsimp only; omega⟩
      rw [ofM_take L m k hkl, hb, if_neg (by decide), List.append_nil]
      exact ho.grow g15
  · have hkl : k = L.length := by omega
    subst hkl
    exact ⟨_, rfl, ho.slX, g9⟩
section
variable {w : World} {sv fv hv bv : Value} {s h : List Int} {b L : List Atm}
theorem large_c (hl : SlA w fv L) (hh : SlI w hv h) (hb : SlA w bv b) : Calls Tryz.prog 41 #[fv, .agg #[hv, bv]] w (Ret w (.bool (decide ((askO h b L).1 = 3)))) := by
  refine f41_calls _ _ ⟨_, rfl, fun w1 hw1 => ?_⟩
  have g1 := alloc_grow hw1
  refine ⟨[_, _], rfl, (RecV.new hw1).all, (refCount_c (hh.grow g1) (hb.gr g1) (hl.gr g1)).mono ?_⟩
  rintro e w4 ⟨rfl, g4⟩
  exact ⟨_, _, rfl, rfl, g1.trans g4⟩
/-- A repair's number of matches, by the reference, in both orders of evaluation. -/
theorem refN_c {wq : World} (hl : SlA wq fv L) (h12 : L.length ≤ 12) (hh : SlI wq hv h) (hb : SlA wq bv b) (h0 : (askO h b L).1 = 0) {aq : Addr} (hQ : ∀ {E}, Grow wq E → ∀ (j : Nat) (v : Value), [hv, bv][j]? = some v → E.cell? (Addr.add aq j) = some v) {m : Nat} {w' : World} (g : Grow wq w') {K : Int → World → Prop}
    (hk : ∀ w2, Grow w' w2 → K (cntM b L m : Int) w2) : ∀ d : DM w', (∃ cs_v20 : List Value, cs_v20.length = 2 ∧ (∀ (j : Nat) (v : Value), cs_v20[j]? = some v → (dr w' d.1).cell? (Addr.add aq j) = some v) ∧ Calls Tryz.prog 44 #[fv, (Value.int .i64 (m : Int))] (dr w' d.1) fun e_v22 w_v21 => ∃ t_v23 : Value, e_v22 = .returned t_v23 ∧ Calls Tryz.prog 43 #[(Value.agg cs_v20.toArray), t_v23] w_v21 fun e_v25 w_v24 => ∃ t_v26 : Int, ∃ t_v27 : Int, e_v25 = .returned (Value.tuple #[(Value.int .i64 t_v26), (Value.int .i64 t_v27)]) ∧ K t_v26 w_v24) ∧ (Calls Tryz.prog 44 #[fv, (Value.int .i64 (m : Int))] (dr w' d.1) fun e_v29 w_v28 => ∃ t_v30 : Value, e_v29 = .returned t_v30 ∧ ∃ cs_v31 : List Value, cs_v31.length = 2 ∧ (∀ (j : Nat) (v : Value), cs_v31[j]? = some v → w_v28.cell? (Addr.add aq j) = some v) ∧ Calls Tryz.prog 43 #[(Value.agg cs_v31.toArray), t_v30] w_v28 fun e_v33 w_v32 => ∃ t_v34 : Int, ∃ t_v35 : Int, e_v33 = .returned (Value.tuple #[(Value.int .i64 t_v34), (Value.int .i64 t_v35)]) ∧ K t_v34 w_v32) := by
  intro d
  have gd : Grow w' (dr w' d.1) := (Grow.refl w').dr d.1
  have gD := g.trans gd
  have leaf : ∀ {w2 v}, Grow (dr w' d.1) w2 → SlA w2 v (ofM L m) → Calls Tryz.prog 43 #[.agg #[hv, bv], v] w2 fun e_v33 w_v32 => ∃ t_v34 : Int, ∃ t_v35 : Int, e_v33 = .returned (Value.tuple #[(Value.int .i64 t_v34), (Value.int .i64 t_v35)]) ∧ K t_v34 w_v32 := fun {w2 v} g2 hv2 => by
    refine (refCount_c (hh.grow (gD.trans g2)) (hb.gr (gD.trans g2)) hv2).mono ?_
    rintro e w3 ⟨rfl, g3⟩
    rw [askO_ofM h0]
    exact ⟨_, _, rfl, hk w3 ((gd.trans g2).trans g3)⟩
  have call : ∀ {Q : Ending → World → Prop}, (∀ v w2, Grow (dr w' d.1) w2 → SlA w2 v (ofM L m) → Q (.returned v) w2) → Calls Tryz.prog 44 #[fv, .int .i64 (m : Int)] (dr w' d.1) Q := fun hq => (ofR_c (hl.gr gD) h12 m).mono (by
    rintro e w2 ⟨v, rfl, hv2, g2⟩
    exact hq v w2 g2 hv2)
  exact ⟨⟨[_, _], rfl, hQ gD, call fun v w2 g2 hv2 => ⟨v, rfl, leaf g2 hv2⟩⟩, call fun v w2 g2 hv2 => ⟨v, rfl, [_, _], rfl, hQ (gD.trans g2), leaf g2 hv2⟩⟩
theorem shareN_take {s : List Int} {b L : List Atm} {k : Nat} (hkl : k < (allR (klS s) L).length) : (((allR (klS s) L).take (k + 1)).filter fun m => decide (cntM b L m ≠ 0)).length = (((allR (klS s) L).take k).filter fun m => decide (cntM b L m ≠ 0)).length + (if 0 < cntM b L (allR (klS s) L)[k] then 1 else 0) := by
  rw [List.take_succ_eq_append_getElem hkl, List.filter_append, List.length_append]
  by_cases h9 : cntM b L (allR (klS s) L)[k] = 0
  · simp [h9]
  · have : ([(allR (klS s) L)[k]].filter fun m => decide (cntM b L m ≠ 0)).length = 1 := by simp [h9]
    rw [this, if_pos (by omega)]
theorem refShare_c (hs : SlI w sv s) (hl : SlA w fv L) (hh : SlI w hv h) (hb : SlA w bv b) (hR : okR s L = true) (h0 : (askO h b L).1 = 0) :
    Calls Tryz.prog 17 #[sv, fv, .agg #[hv, bv]] w (Ret w (.tuple #[.int .i64 (shareN s b L : Int), .int .i64 ((allR (klS s) L).length : Int)])) := by
  refine f17_calls _ _ _ ⟨_, rfl, fun w1 hw1 => ?_⟩
  have g1 := alloc_grow hw1
  have hQ := RecV.new hw1
  refine (all_c (hs.grow g1) (hl.gr g1) hR).mono ?_
  rintro e w3 ⟨v, rfl, hv3, g3⟩
  have g03 := g1.trans g3
  have hle := allR_len (klS s) L (okR_out hR).2.1
  refine ⟨_, rfl, hv3.ln ?_⟩
  rw [natI_len]
  refine ⟨fun yes t w' => ∃ k : Nat, t = k ∧ k ≤ (allR (klS s) L).length ∧ yes = ((((allR (klS s) L).take k).filter fun m => decide (cntM b L m ≠ 0)).length : Int) ∧ Grow w3 w', fun _ t _ => (allR (klS s) L).length - t.toNat, ⟨0, rfl, by omega, rfl, Grow.refl _⟩, ?_⟩
  rintro - yes t w14 ⟨k, rfl, hk, rfl, g14⟩
  refine condD (fun hlt => ?_) fun hge => ?_
  · have hkl : k < (allR (klS s) L).length := by omega
    refine (hv3.grow g14).rd rfl (by rw [natI_len]; exact hkl) ?_
    rw [natI_get hkl]
    have hfl := List.length_filter_le (fun m => decide (cntM b L m ≠ 0)) ((allR (klS s) L).take k)
    rw [List.length_take] at hfl
    have hst := shareN_take (s := s) (b := b) (L := L) hkl
    refine refN_c (hl.gr g03) (okR_out hR).2.1 (hh.grow g03) (hb.gr g03) h0 (fun g => ((hQ.grow g3).grow g).all) g14 fun w2 g2 => condD (fun hp => ?_) fun hp => ?_
    · rw [if_pos (by omega)] at hst
      exact ⟨by unfold inR; omega, by unfold inR; omega, ⟨k + 1, by omega, by omega, by rw [hst]; omega, g14.trans g2⟩, by dsimp only; omega⟩
    · rw [if_neg (by omega)] at hst
      exact ⟨by unfold inR; omega, ⟨k + 1, by omega, by omega, by rw [hst]; omega, g14.trans g2⟩, by dsimp only; omega⟩
  · have hkl : k = (allR (klS s) L).length := by omega
    subst hkl
    refine (hv3.grow g14).ln ⟨?_, g03.trans g14⟩
    rw [natI_len, List.take_length]
    rfl
theorem refCounter_c (hs : SlI w sv s) (hl : SlA w fv L) (hh : SlI w hv h) (hb : SlA w bv b) (hR : okR s L = true) (h0 : (askO h b L).1 = 0) :
    Calls Tryz.prog 20 #[sv, fv, .agg #[hv, bv]] w (Ret w (.int .i64 (match cntrO s b L with | some m => (m : Int) | none => -1))) := by
  refine f20_calls _ _ _ ⟨_, rfl, fun w1 hw1 => ?_⟩
  have g1 := alloc_grow hw1
  have hQ := RecV.new hw1
  refine (all_c (hs.grow g1) (hl.gr g1) hR).mono ?_
  rintro e w3 ⟨v, rfl, hv3, g3⟩
  have g03 := g1.trans g3
  have hle := allR_len (klS s) L (okR_out hR).2.1
  refine ⟨_, rfl, hv3.ln ?_⟩
  rw [natI_len]
  refine ⟨fun t w' => ∃ k : Nat, t = k ∧ k ≤ (allR (klS s) L).length ∧ (∀ j (hj : j < (allR (klS s) L).length), j < k → cntM b L (allR (klS s) L)[j] ≠ 0) ∧ Grow w3 w', fun t _ => (allR (klS s) L).length - t.toNat, ⟨0, rfl, by omega, fun j _ h => by omega, Grow.refl _⟩, ?_⟩
  rintro - t w14 ⟨k, rfl, hk, hno, g14⟩
  refine condD (fun hlt => ?_) fun hge => ?_
  · have hkl : k < (allR (klS s) L).length := by omega
    refine (hv3.grow g14).rd rfl (by rw [natI_len]; exact hkl) ?_
    rw [natI_get hkl]
    refine refN_c (hl.gr g03) (okR_out hR).2.1 (hh.grow g03) (hb.gr g03) h0 (fun g => ((hQ.grow g3).grow g).all) g14 fun w2 g2 => condD (fun hp => ⟨?_, (g03.trans g14).trans g2⟩) fun hp => ⟨by unfold inR; omega, ⟨k + 1, by omega, by omega, fun j hj hjk => ?_, g14.trans g2⟩, by dsimp only; omega⟩
    · have : cntrO s b L = some (allR (klS s) L)[k] := List.find?_eq_some_iff_getElem.2 ⟨decide_eq_true (by omega), k, hkl, rfl, fun j hj => by
        have := hno j (by omega) hj
        simp [this]⟩
      rw [this]
    · by_cases e : j = k
      · subst e; omega
      · exact hno j hj (by omega)
  · have : cntrO s b L = none := List.find?_eq_none.2 fun m hm => by
      obtain ⟨j, hj, rfl⟩ := List.getElem_of_mem hm
      have := hno j hj (by omega)
      simp [this]
    rw [this]
    exact ⟨rfl, g03.trans g14⟩
/-- The least and the greatest of a list, if it is not empty. -/
def LowHigh (l : List Int) (lo hi : Int) : Prop := lo ∈ l ∧ hi ∈ l ∧ ∀ x ∈ l, lo ≤ x ∧ x ≤ hi
theorem LowHigh.uniq {l : List Int} {lo hi lo' hi' : Int} (h : LowHigh l lo hi) (h' : LowHigh l lo' hi') : lo = lo' ∧ hi = hi' := by
  have a := h.2.2 _ h'.1
  have b := h.2.2 _ h'.2.1
  have c := h'.2.2 _ h.1
  have d := h'.2.2 _ h.2.1
  exact ⟨by omega, by omega⟩
theorem refRange_c (hs : SlI w sv s) (hl : SlA w fv L) (hh : SlI w hv h) (hb : SlA w bv b) (hR : okR s L = true) (h0 : (askO h b L).1 = 0) :
    Calls Tryz.prog 32 #[sv, fv, .agg #[hv, bv]] w fun e w' => ∃ lo hi : Int, e = .returned (.tuple #[.int .i64 lo, .int .i64 hi]) ∧ LowHigh (natI (cnts s b L)) lo hi ∧ Grow w w' := by
  refine f32_calls _ _ _ ⟨_, rfl, fun w1 hw1 => ?_⟩
  have g1 := alloc_grow hw1
  have hQ := RecV.new hw1
  refine (all_c (hs.grow g1) (hl.gr g1) hR).mono ?_
  rintro e w3 ⟨v, rfl, hv3, g3⟩
  have g03 := g1.trans g3
  have hne : 1 ≤ (allR (klS s) L).length := List.length_pos_iff.2 (allR_ne (okR_out hR).2.2.2.1)
  have hle := allR_len (klS s) L (okR_out hR).2.1
  refine ⟨_, rfl, hv3.ln ?_⟩
  rw [natI_len]
  have hcl : ∀ m, cntM b L m ≤ 20000 := cntM_le h0
  refine ⟨fun lo hi t w' => ∃ k : Nat, t = k ∧ k ≤ (allR (klS s) L).length ∧ ((k = 0 ∧ lo = 1073741824 ∧ hi = 0) ∨ (0 < k ∧ LowHigh (natI (((allR (klS s) L).take k).map (cntM b L))) lo hi)) ∧ Grow w3 w', fun _ _ t _ => (allR (klS s) L).length - t.toNat, ⟨0, rfl, by omega, .inl ⟨rfl, rfl, rfl⟩, Grow.refl _⟩, ?_⟩
  rintro - lo hi t w15 ⟨k, rfl, hk, hinv, g15⟩
  refine condD (fun hlt => ?_) fun hge => ?_
  · have hkl : k < (allR (klS s) L).length := by omega
    refine (hv3.grow g15).rd rfl (by rw [natI_len]; exact hkl) ?_
    rw [natI_get hkl]
    have hc := hcl (allR (klS s) L)[k]
    refine refN_c (hl.gr g03) (okR_out hR).2.1 (hh.grow g03) (hb.gr g03) h0 (fun g => ((hQ.grow g3).grow g).all) g15 fun w2 g2 => ⟨by unfold inR; omega, ⟨k + 1, by omega, by omega, .inr ⟨by omega, ?_⟩, g15.trans g2⟩, by dsimp only; omega⟩
    have et : natI (((allR (klS s) L).take (k + 1)).map (cntM b L)) = natI (((allR (klS s) L).take k).map (cntM b L)) ++ [(cntM b L (allR (klS s) L)[k] : Int)] := by
      rw [List.take_succ_eq_append_getElem hkl, List.map_append, natI_app]
      rfl
    rw [et]
    rcases hinv with ⟨rfl, rfl, rfl⟩ | ⟨hk0, h1, h2, h3⟩
    · have e1 : (if (cntM b L (allR (klS s) L)[0] : Int) < 1073741824 then (cntM b L (allR (klS s) L)[0] : Int) else 1073741824) = cntM b L (allR (klS s) L)[0] := if_pos (by omega)
      have e2 : (if (0 : Int) < (cntM b L (allR (klS s) L)[0] : Int) then (cntM b L (allR (klS s) L)[0] : Int) else 0) = cntM b L (allR (klS s) L)[0] := by split <;> omega
      rw [e1, e2]
      refine ⟨by simp, by simp, fun x hx => ?_⟩
      have : x = (cntM b L (allR (klS s) L)[0] : Int) := by simpa [natI] using hx
      omega
    · refine ⟨?_, ?_, fun x hx => ?_⟩
      · split
        · simp
        · exact List.mem_append_left _ h1
      · split
        · simp
        · exact List.mem_append_left _ h2
      · rcases List.mem_append.1 hx with hx | hx
        · have := h3 x hx
          constructor <;> split <;> omega
        · have : x = (cntM b L (allR (klS s) L)[k] : Int) := by simpa using hx
          constructor <;> split <;> omega
  · have hkl : k = (allR (klS s) L).length := by omega
    subst hkl
    rw [List.take_length] at hinv
    refine ⟨lo, hi, rfl, ?_, g03.trans g15⟩
    rcases hinv with ⟨h, _, _⟩ | ⟨_, h⟩
    · omega
    · exact h
end
end Go.Proofs.YtmjpnfapjcfejaaGreatDoor
