/- The statement RepairOrder, as a contract. The table of bits is laid (Tab). -/
import Derived.Test.YtmjpnfapjcfejaaGreatDoorSv
import Derived.Test.YtmjpnfapjcfejaaGreatDoorRl
import Derived.Test.YtmjpnfapjcfejaaGreatDoorTa
import Derived.Test.YtmjpnfapjcfejaaGreatDoorSr
import Derived.Test.YtmjpnfapjcfejaaGreatDoorMs
import Derived.Test.YtmjpnfapjcfejaaGreatDoorGorder
namespace Go.Proofs.YtmjpnfapjcfejaaGreatDoor
open Go Go.RowKit VC
set_option linter.unusedSimpArgs false
set_option linter.unusedVariables false

theorem rewO_rev (s h : List Int) (b L : List Atm) : rewO s h b L.reverse = rewO s h b L := by
  unfold rewO
  rw [okR_rev, rew_rev]
section
variable {w : World} {sv hv bv : Value} {s h : List Int} {b : List Atm}
/-- few(s), Of(q), the loads taken first. -/
theorem argsB {aq : Addr} (hs : SlI w sv s) (hh : SlI w hv h) (hb : SlA w bv b) (hQ : ∀ {E}, Grow w E → ∀ (j : Nat) (v : Value), [hv, bv][j]? = some v → E.cell? (Addr.add aq j) = some v) {F : Value → Value → World → Prop}
    (hk : ∀ s1 h1 b1 w', SlI w' s1 (s.take 9) → SlI w' h1 (h.take 9) → SlA w' b1 (trB b) → Grow w w' → F s1 (.agg #[h1, b1]) w') :
    ∀ m_v3 : DM w, ∃ cs_v4 : List Value, cs_v4.length = 2 ∧ (∀ (j : Nat) (v : Value), cs_v4[j]? = some v → (dr w m_v3.1).cell? (Addr.add aq j) = some v) ∧ Calls Tryz.prog 12 #[sv] (dr w m_v3.1) fun e_v6 w_v5 => ∃ t_v7 : Value, e_v6 = .returned t_v7 ∧ Grow (dr w m_v3.1) w_v5 ∧ Calls Tryz.prog 14 #[(Value.agg cs_v4.toArray)] w_v5 fun e_v12 w_v11 => ∃ t_v13 : Value, e_v12 = .returned t_v13 ∧ Grow w_v5 w_v11 ∧ F t_v7 t_v13 w_v11 := by
  intro d
  have gd : Grow w (dr w d.1) := (Grow.refl w).dr d.1
  refine ⟨[_, _], rfl, hQ gd, (few7_c (hs.grow gd)).mono ?_⟩
  rintro e w5 ⟨s1, rfl, o1, g5⟩
  refine ⟨_, rfl, g5, (ofS_c (hh.grow (gd.trans g5)) (hb.gr (gd.trans g5))).mono ?_⟩
  rintro e w11 ⟨h1, b1, rfl, o3, o4, g11⟩
  exact ⟨_, rfl, g11, hk _ _ _ _ ((Own.slI o1).grow g11) o3 o4 ((gd.trans g5).trans g11)⟩
end
theorem repairOrder_c {w : World} {sv fv hv bv : Value} {s h : List Int} {b L : List Atm} (hs : SlI w sv s) (hl : SlA w fv L) (hh : SlI w hv h) (hb : SlA w bv b) (hT : Tab w) :
    Calls Tryz.prog 10 #[sv, fv, .agg #[hv, bv]] w (Ret w (.bool true)) := by
  refine f10_calls _ _ _ ⟨_, rfl, fun w1 hw1 => ?_⟩
  have g1 := alloc_grow hw1
  refine (facts_c (hl.gr g1)).mono ?_
  rintro e w3 ⟨back, rfl, ob, g3⟩
  refine ⟨_, rfl, (reverseF_c ob).mono ?_⟩
  rintro e w6 ⟨rfl, ob6, f6⟩
  have g16 : Grow w1 w6 := g3.fr f6 fun q hq e => by have := (ob.lt e.symm).1; omega
  have g06 := g1.trans g16
  have hQ := (RecV.new hw1).grow g16
  obtain ⟨M, hM⟩ : ∃ M, M = trF L := ⟨_, rfl⟩
  obtain ⟨S, hS⟩ : ∃ S, S = s.take 9 := ⟨_, rfl⟩
  obtain ⟨H, hH⟩ : ∃ H, H = h.take 9 := ⟨_, rfl⟩
  obtain ⟨B, hB⟩ : ∃ B, B = trB b := ⟨_, rfl⟩
  rw [← hM] at ob6
  have hbk : SlA w6 back M.reverse := OwnX.slX ob6
  have hs6 := hs.grow g06
  have hl6 := hl.gr g06
  have hh6 := hh.grow g06
  have hb6 := hb.gr g06
  have hT6 := hT.grow g06
  have A : ∀ {E : World} {F : Value → Value → Value → World → Prop}, Grow w6 E → (∀ s1 f1 h1 b1 w', SlI w' s1 S → SlA w' f1 M → SlI w' h1 H → SlA w' b1 B → Grow E w' → F s1 f1 (.agg #[h1, b1]) w') → _ := fun {E F} gE hk => argsG (hs6.grow gE) (hl6.gr gE) (hh6.grow gE) (hb6.gr gE) (fun g => (hQ.grow (gE.trans g)).all) (F := F) (by rw [← hS, ← hM, ← hH, ← hB]; exact hk)
  have A2 : ∀ {E : World} {F : Value → Value → World → Prop}, Grow w6 E → (∀ s1 h1 b1 w', SlI w' s1 S → SlI w' h1 H → SlA w' b1 B → Grow E w' → F s1 (.agg #[h1, b1]) w') → _ := fun {E F} gE hk => argsB (hs6.grow gE) (hh6.grow gE) (hb6.gr gE) (fun g => (hQ.grow (gE.trans g)).all) (F := F) (by rw [← hS, ← hH, ← hB]; exact hk)
  have fin : ∀ {E : World}, Grow w6 E → Calls Tryz.prog 16 #[] E fun e w' => ∃ t : Bool, e = .returned (Value.bool t) ∧ Ret w (.bool true) (.returned (Value.bool t)) w' := fun gE => awake7_c.mono (by
    rintro e w23 ⟨rfl, g23⟩
    exact ⟨_, rfl, rfl, (g06.trans gE).trans g23⟩)
  refine ⟨rfl, A (Grow.refl _) fun s1 f1 h1 b1 w16 o1 o2 o3 o4 g16 => (sure_c o1 o2 o3 o4 (hT6.grow g16)).mono ?_⟩
  rintro e w19 ⟨va, rfl, hva, g19⟩
  have q19 := g16.trans g19
  refine ⟨_, _, rfl, g19, A2 q19 fun s2 h2 b2 w28 p1 p2 p3 g28 => (sure_c p1 (hbk.gr (q19.trans g28)) p2 p3 (hT6.grow (q19.trans g28))).mono ?_⟩
  rintro e w31 ⟨vb, rfl, hvb, g31⟩
  have g1931 := g28.trans g31
  have q31 := q19.trans g1931
  rw [askE_rev] at hvb ⊢
  have hab : (if askE false S H B M = 0 then sureR S H B M.reverse else []) = (if askE false S H B M = 0 then sureR S H B M else []) := by
    by_cases h0 : askE false S H B M = 0
    · rw [if_pos h0, if_pos h0]
      exact sureR_rev (okR_out (askE_ok h0).1).2.2.2.1
    · rw [if_neg h0, if_neg h0]
  rw [hab] at hvb
  refine ⟨_, _, rfl, g31, hl6.ln (condD (fun _ => fin q31) fun _ => (rows7_c (hva.gr g1931) hvb).mono ?_)⟩
  rintro e w41 ⟨rfl, g41⟩
  have q41 := q31.trans g41
  refine ⟨_, rfl, cF (by simp) (cF (by simp) (A q41 fun s3 f3 h3 b3 w52 o5 o6 o7 o8 g52 => (range_c o5 o6 o7 o8 (hT6.grow (q41.trans g52))).mono ?_))⟩
  rintro e w55 ⟨lo, hi, rfl, n1, y1, g55⟩
  have q55 := (q41.trans g52).trans (g55)
  refine ⟨_, _, _, rfl, g55, A2 q55 fun s4 h4 b4 w65 p5 p6 p7 g65 => (range_c p5 (hbk.gr (q55.trans g65)) p6 p7 (hT6.grow (q55.trans g65))).mono ?_⟩
  rintro e w68 ⟨lo', hi', rfl, n2, y2, g68⟩
  have q68 := (q55.trans g65).trans g68
  rw [askE_rev] at n2 y2 ⊢
  have hlh : lo = lo' ∧ hi = hi' := by
    by_cases h0 : askE false S H B M = 0
    · exact LowHigh.uniq (y1 h0) ((lowHigh_rev (okR_out (askE_ok h0).1).2.2.2.1).1 (y2 h0))
    · rw [(n1 h0).1, (n1 h0).2, (n2 h0).1, (n2 h0).2]
      exact ⟨rfl, rfl⟩
  obtain ⟨rfl, rfl⟩ := hlh
  refine ⟨_, _, _, rfl, g68, cF (by simp) (cF (by simp) (cF (by simp) (A q68 fun s5 f5 h5 b5 w81 o9 o10 o11 o12 g81 => (share_c o9 o10 o11 o12 (hT6.grow (q68.trans g81))).mono ?_)))⟩
  rintro e w84 ⟨rfl, g84⟩
  have q84 := (q68.trans g81).trans g84
  refine ⟨_, _, _, rfl, g84, A2 q84 fun s6 h6 b6 w94 p9 p10 p11 g94 => (share_c p9 (hbk.gr (q84.trans g94)) p10 p11 (hT6.grow (q84.trans g94))).mono ?_⟩
  rintro e w97 ⟨rfl, g97⟩
  have q97 := (q84.trans g94).trans g97
  rw [askE_rev]
  have hsh : (if askE true S H B M = 0 then (shareN S B M.reverse : Int) else 0) = (if askE true S H B M = 0 then (shareN S B M : Int) else 0) ∧ (if askE true S H B M = 0 then ((allR (klS S) M.reverse).length : Int) else 0) = (if askE true S H B M = 0 then ((allR (klS S) M).length : Int) else 0) := by
    by_cases h0 : askE true S H B M = 0
    · have hn := (okR_out (askE_ok h0).1).2.2.2.1
      rw [shareN_rev hn, allR_len_rev hn]
      exact ⟨rfl, rfl⟩
    · simp only [if_neg h0, and_self]
  rw [hsh.1, hsh.2]
  refine ⟨_, _, _, rfl, g97, cF (by simp) (cF (by simp) (cF (by simp) (A q97 fun s7 f7 h7 b7 w110 o13 o14 o15 o16 g110 => (RewriteP_c o13 o14 o15 o16 (hT6.grow (q97.trans g110))).mono ?_)))⟩
  rintro e w113 ⟨rfl, g113⟩
  have q113 := (q97.trans g110).trans g113
  refine ⟨_, _, rfl, g113, A2 q113 fun s8 h8 b8 w122 p13 p14 p15 g122 => (RewriteP_c p13 (hbk.gr (q113.trans g122)) p14 p15 (hT6.grow (q113.trans g122))).mono ?_⟩
  rintro e w125 ⟨rfl, g125⟩
  have q125 := (q113.trans g122).trans g125
  rw [rewO_rev]
  exact ⟨_, _, rfl, g125, cT (by simp) (cT (by simp) (fin q125))⟩
end Go.Proofs.YtmjpnfapjcfejaaGreatDoor
