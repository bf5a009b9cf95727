/- Why a question has no answer; the arguments of a statement, one after the other. No condition. -/
import Derived.Test.YtmjpnfapjcfejaaDoorRn
import Derived.Test.YtmjpnfapjcfejaaDoorRj
namespace Go.Proofs.YtmjpnfapjcfejaaDoor
open Go Go.RowKit VC
set_option linter.unusedSimpArgs false
set_option linter.unusedVariables false

theorem askE_tr' (q : Bool) (s h : List Int) (b L : List Atm) : askE q (s.take 9) (h.take 9) (trB b) (trF L) = askE q s h b L := by
  unfold askE
  rw [okR_tr, askO_tr]
  have : decide (0 < (h.take 9).length) = decide (0 < h.length) := decide_eq_decide.2 (by rw [List.length_take]; omega)
  rw [this]
theorem askE_ok' {q : Bool} {s h : List Int} {b L : List Atm} (h0 : askE q s h b L = 0) : okR s L = true ∧ (askO h b L).1 = 0 ∧ okQ h b = true ∧ s.take 9 = s ∧ h.take 9 = h ∧ trB b = b ∧ trF L = L ∧ (q = true → h = []) := by
  unfold askE at h0
  split at h0
  · rename_i hc
    rw [Bool.and_eq_true, Bool.not_eq_true', Bool.and_eq_false_iff, decide_eq_false_iff_not] at hc
    have hq := (askO_ok h0).1
    refine ⟨hc.1, h0, hq, (okR_trF hc.1).2, (trB_of hq).2, (trB_of hq).1, (okR_trF hc.1).1, fun e => ?_⟩
    rcases hc.2 with h1 | h1
    · rw [e] at h1; cases h1
    · exact List.length_eq_zero_iff.1 (by omega)
  · cases h0
theorem askE_cases' (q : Bool) (s h : List Int) (b L : List Atm) : askE q s h b L = 0 ∨ askE q s h b L = 2 ∨ askE q s h b L = 3 := by
  unfold askE
  split
  · exact askO_cases h b L
  · exact .inr (.inl rfl)
theorem cert_cntrE (s : List Int) (b L : List Atm) : certB s b L = (cntrO s b L).isNone := by
  unfold certB cntrO
  rw [Bool.eq_iff_iff, List.all_eq_true, Option.isNone_iff_eq_none, List.find?_eq_none]
  refine forall_congr' fun m => forall_congr' fun _ => ?_
  simp
theorem getD_setE {l : List Int} {i j : Nat} {z : Int} : (l.set i z).getD j 0 = if j = i ∧ i < l.length then z else l.getD j 0 := by
  simp only [List.getD, List.getElem?_set]
  by_cases h : i = j
  · subst h
    by_cases h2 : i < l.length
    · simp [h2]
    · simp [h2]
  · have : ¬ j = i := fun e => h e.symm
    simp [h, this]
section
variable {w : World} {sv fv hv bv : Value} {s h : List Int} {b L : List Atm}
/-- few(s), Facts(facts), Of(q), the loads taken first. -/
theorem argsG {aq : Addr} (hs : SlI w sv s) (hl : SlA w fv L) (hh : SlI w hv h) (hb : SlA w bv b) (hQ : ∀ {E}, Grow w E → ∀ (j : Nat) (v : Value), [hv, bv][j]? = some v → E.cell? (Addr.add aq j) = some v) {F : Value → Value → Value → World → Prop}
    (hk : ∀ s1 f1 h1 b1 w', SlI w' s1 (s.take 9) → SlA w' f1 (trF L) → SlI w' h1 (h.take 9) → SlA w' b1 (trB b) → Grow w w' → F s1 f1 (.agg #[h1, b1]) w') :
    ∀ m_v3 : DM w, ∃ cs_v4 : List Value, cs_v4.length = 2 ∧ (∀ (j : Nat) (v : Value), cs_v4[j]? = some v → (dr w m_v3.1).cell? (Addr.add aq j) = some v) ∧ Calls Tryd.prog 7 #[sv] (dr w m_v3.1) fun e_v6 w_v5 => ∃ t_v7 : Value, e_v6 = .returned t_v7 ∧ Grow (dr w m_v3.1) w_v5 ∧ Calls Tryd.prog 8 #[fv] w_v5 fun e_v9 w_v8 => ∃ t_v10 : Value, e_v9 = .returned t_v10 ∧ Grow w_v5 w_v8 ∧ Calls Tryd.prog 9 #[(Value.agg cs_v4.toArray)] w_v8 fun e_v12 w_v11 => ∃ t_v13 : Value, e_v12 = .returned t_v13 ∧ Grow w_v8 w_v11 ∧ F t_v7 t_v10 t_v13 w_v11 := by
  intro d
  have gd : Grow w (dr w d.1) := (Grow.refl w).dr d.1
  refine ⟨[_, _], rfl, hQ gd, (few7_c (hs.grow gd)).mono ?_⟩
  rintro e w5 ⟨s1, rfl, o1, g5⟩
  refine ⟨_, rfl, g5, (factsS_c (hl.gr (gd.trans g5))).mono ?_⟩
  rintro e w8 ⟨f1, rfl, o2, g8⟩
  refine ⟨_, rfl, g8, (ofS_c (hh.grow ((gd.trans g5).trans g8)) (hb.gr ((gd.trans g5).trans g8))).mono ?_⟩
  rintro e w11 ⟨h1, b1, rfl, o3, o4, g11⟩
  exact ⟨_, rfl, g11, hk _ _ _ _ _ ((Own.slI o1).grow (g8.trans g11)) (o2.gr g11) o3 o4 (((gd.trans g5).trans g8).trans g11)⟩
end
end Go.Proofs.YtmjpnfapjcfejaaDoor
