/- The statement RepairRules, as a contract. The table of bits is laid (Tab). -/
import Derived.Test.YtmjpnfapjcfejaaGreatDoorSv
import Derived.Test.YtmjpnfapjcfejaaGreatDoorRl
import Derived.Test.YtmjpnfapjcfejaaGreatDoorTa
import Derived.Test.YtmjpnfapjcfejaaGreatDoorGrules
namespace Go.Proofs.YtmjpnfapjcfejaaGreatDoor
open Go Go.RowKit VC
set_option linter.unusedSimpArgs false
set_option linter.unusedVariables false

/-- Where Rewrite has an answer, the question is certain exactly if the answer is true. -/
theorem rewO_ok {s h : List Int} {b L : List Atm} (h0 : (rewO s h b L).2 = 0) : askE true s h b L ≠ 2 ∧ (rewO s h b L).1 = certB s b L := by
  unfold rewO at h0 ⊢
  split at h0
  · rename_i hc
    split at h0
    · rename_i ha
      split at h0
      · cases h0
      · rename_i hm
        rw [if_pos hc, if_pos ha, if_neg hm]
        obtain ⟨hS, hq, hK, hP⟩ := askN_ok ha
        obtain ⟨_, _, hFs, hnd, hlen⟩ := okR_out hc.1
        have hA := okQ_all hq
        constructor
        · unfold askE askO
          rw [hc.1, hq, hFs, decide_eq_false (by omega)]
          simp only [Bool.and_false, Bool.not_false, Bool.and_self, if_true]
          split <;> simp
        · have hF : ∀ f ∈ L, okF f = true := by
            simp only [okFs, Bool.and_eq_true, decide_eq_true_eq] at hFs
            exact List.all_eq_true.1 hFs.2
          have hm' : mutB (varsOf b) (keysOf s b) = false := by simpa using hm
          have h1 := rew_cert (kl := klS s) hF hlen b.length b m0 rfl (plnB_iff hP).1 (plnB_iff hP).2 hA rfl ((acy_m0 hA hP).2 hm')
          have h2 := cert_all (kl := klS s) hnd (b := b) (D := domM m0) (m0 := mg m0) (fun x hx => hx (mg_m0 x))
          show rewR (klS s) L b.length b m0 = certB s b L
          rw [Bool.eq_iff_iff, h1, h2, certB, List.all_eq_true]
          refine forall_congr' fun m => forall_congr' fun _ => ?_
          rw [decide_eq_true_eq]
          exact (cntM_sat hq hFs m).symm
    · rename_i ha
      exact absurd h0 ha
  · cases h0
theorem repairRules_c {w : World} {sv fv hv bv : Value} {s h : List Int} {b L : List Atm} (hs : SlI w sv s) (hl : SlA w fv L) (hh : SlI w hv h) (hb : SlA w bv b) (hT : Tab w) :
    Calls Tryz.prog 9 #[sv, fv, .agg #[hv, bv]] w (Ret w (.bool true)) := by
  refine f9_calls _ _ _ ⟨_, rfl, fun w1 hw1 => ?_⟩
  have g1 := alloc_grow hw1
  have hQ := RecV.new hw1
  refine argsG (hs.grow g1) (hl.gr g1) (hh.grow g1) (hb.gr g1) (fun g => (hQ.grow g).all) fun s1 f1 h1 b1 w11 o1 o2 o3 o4 g11 => (RewriteP_c o1 o2 o3 o4 (hT.grow (g1.trans g11))).mono ?_
  rw [rewO_tr]
  rintro e w14 ⟨rfl, g14⟩
  have g114 := g11.trans g14
  have g014 := g1.trans g114
  refine ⟨_, _, rfl, g14, argsG (hs.grow g014) (hl.gr g014) (hh.grow g014) (hb.gr g014) (fun g => (hQ.grow (g114.trans g)).all) fun s2 f2 h2 b2 w26 p1 p2 p3 p4 g26 => (certain_c p1 p2 p3 p4 (hT.grow (g014.trans g26))).mono ?_⟩
  rw [askE_tr]
  rintro e w29 ⟨rfl, g29⟩
  have g029 := (g014.trans g26).trans g29
  have fin : ∀ {E : World}, Grow w E → Calls Tryz.prog 16 #[] E fun e w' => ∃ t : Bool, e = .returned (Value.bool t) ∧ Ret w (.bool true) (.returned (Value.bool t)) w' := fun gE => awake7_c.mono (by
    rintro e w23 ⟨rfl, g23⟩
    exact ⟨_, rfl, rfl, gE.trans g23⟩)
  refine ⟨_, _, rfl, g29, ?_⟩
  by_cases h0 : (rewO s h b L).2 = 0
  · obtain ⟨h2, h1⟩ := rewO_ok h0
    refine cF (by rw [h0]; rfl) (condP_i (fun _ => cF (by rw [h0]; rfl) (cT (by simpa using h2) (fin g029))) fun hz => ?_)
    have hz : askE true s h b L = 0 := by simpa using hz
    obtain ⟨_, _, _, e1, e2, e3, e4, _⟩ := askE_ok hz
    exact cT (by rw [h1, hz, e1, e3, e4]; cases certB s b L <;> rfl) (cF (by rw [h0]; rfl) (cT (by simpa using h2) (fin g029)))
  · exact cT (by simpa using h0) (cT (by simpa using h0) (fin g029))
end Go.Proofs.YtmjpnfapjcfejaaGreatDoor
