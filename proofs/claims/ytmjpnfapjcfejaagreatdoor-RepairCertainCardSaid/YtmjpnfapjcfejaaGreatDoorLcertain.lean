/- The statement RepairCertain, as a contract. The table of bits is laid (Tab). -/
import Derived.Test.YtmjpnfapjcfejaaGreatDoorRo
import Derived.Test.YtmjpnfapjcfejaaGreatDoorGcertain
namespace Go.Proofs.YtmjpnfapjcfejaaGreatDoor
open Go Go.RowKit VC
set_option linter.unusedSimpArgs false
set_option linter.unusedVariables false

theorem cert_cntr (s : List Int) (b L : List Atm) : certB s b L = (cntrO s b L).isNone := by
  unfold certB cntrO
  rw [Bool.eq_iff_iff, List.all_eq_true, Option.isNone_iff_eq_none, List.find?_eq_none]
  refine forall_congr' fun m => forall_congr' fun _ => ?_
  simp
theorem repairCertain_c {w : World} {sv fv hv bv : Value} {s h : List Int} {b L : List Atm} (hs : SlI w sv s) (hl : SlA w fv L) (hh : SlI w hv h) (hb : SlA w bv b) (hT : Tab w) :
    Calls Tryz.prog 4 #[sv, fv, .agg #[hv, bv]] w (Ret w (.bool true)) := by
  refine f4_calls _ _ _ ⟨_, rfl, fun w1 hw1 => ?_⟩
  have g1 := alloc_grow hw1
  have hQ := RecV.new hw1
  refine ⟨fun ok e w' => ok = (decide (askE true s h b L = 0) && certB s b L) ∧ e = askE true s h b L ∧ Grow w1 w', args7 (hs.grow g1) (hl.gr g1) (hh.grow g1) (hb.gr g1) (fun g => (hQ.grow g).all) fun s1 f1 h1 b1 w11 o1 o2 o3 o4 g11 => (certain_c o1 o2 o3 o4 (hT.grow (g1.trans g11))).mono ?_, ?_⟩
  · rintro e w16 ⟨rfl, g16⟩
    rw [askE_tr]
    refine ⟨_, _, rfl, ?_, rfl, g11.trans g16⟩
    by_cases h0 : askE true s h b L = 0
    · obtain ⟨_, _, _, e1, e2, e3, e4, _⟩ := askE_ok h0
      rw [e1, e3, e4]
    · rw [decide_eq_false h0, Bool.false_and, Bool.false_and]
  rintro - ok e w47 ⟨rfl, rfl, g47⟩
  have g047 := g1.trans g47
  refine args7 (hs.grow g047) (hl.gr g047) (hh.grow g047) (hb.gr g047) (fun g => (hQ.grow (g47.trans g)).all) fun s1 f1 h1 b1 w58 o1 o2 o3 o4 g58 => (counter_c o1 o2 o3 o4 (hT.grow (g047.trans g58))).mono ?_
  rw [askE_tr]
  rintro e w61 ⟨rfl, g61⟩
  have g161 := (g47.trans g58).trans g61
  refine ⟨_, _, rfl, [_, _], rfl, (hQ.grow g161).all, (asked7_c (hs.grow (g1.trans g161)) (hl.gr (g1.trans g161)) (hh.grow (g1.trans g161)) (hb.gr (g1.trans g161))).mono ?_⟩
  rintro e w66 ⟨rfl, g66⟩
  have g066 := (g1.trans g161).trans g66
  rw [Bool.not_false]
  refine ⟨_, rfl, condP_i (fun hne => ?_) fun heq => ?_⟩
  · have hne : ¬ askE true s h b L = 0 := by simpa using hne
    rw [if_neg hne, if_neg hne, decide_eq_false hne, Bool.false_and]
    refine cT rfl (cT rfl (cT (decide_eq_true rfl) (cT (decide_eq_true rfl) (awake7_c.mono ?_))))
    rintro e w23 ⟨rfl, g23⟩
    exact ⟨_, rfl, rfl, g066.trans g23⟩
  · have h0 : askE true s h b L = 0 := by simpa using heq
    obtain ⟨hR, hO, hq, e1, e2, e3, e4, _⟩ := askE_ok h0
    rw [if_pos h0, if_pos h0, e1, e3, e4, h0, decide_eq_true rfl, Bool.true_and, cert_cntr]
    refine ⟨[_, _], rfl, (hQ.grow (g161.trans g66)).all, (refCounter_c (hs.grow g066) (hl.gr g066) (hh.grow g066) (hb.gr g066) hR hO).mono ?_⟩
    rintro e w73 ⟨rfl, g73⟩
    have fin : ∀ {K : Bool → World → Prop}, (∀ w', Grow w w' → K true w') → Calls Tryz.prog 16 #[] w73 fun e w' => ∃ t : Bool, e = .returned (Value.bool t) ∧ K t w' := fun hk => awake7_c.mono (by
      rintro e w23 ⟨rfl, g23⟩
      exact ⟨_, rfl, hk _ ((g066.trans g73).trans g23)⟩)
    cases hc : cntrO s b L with
    | none => exact ⟨_, rfl, cT (by rfl) (cT rfl (cT rfl (cT rfl (cT rfl (fin fun w' g => ⟨rfl, g⟩)))))⟩
    | some m =>
      refine ⟨_, rfl, cF (decide_eq_false (by dsimp only; omega)) (cT rfl (cT rfl (cT ?_ (cT rfl (fin fun w' g => ⟨rfl, g⟩)))))⟩
      exact decide_eq_true rfl
end Go.Proofs.YtmjpnfapjcfejaaGreatDoor
