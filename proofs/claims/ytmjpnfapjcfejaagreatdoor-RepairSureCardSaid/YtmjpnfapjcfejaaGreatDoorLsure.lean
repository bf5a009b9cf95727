/- The statement RepairSure, as a contract. The table of bits is laid (Tab). -/
import Derived.Test.YtmjpnfapjcfejaaGreatDoorRo
import Derived.Test.YtmjpnfapjcfejaaGreatDoorRq
import Derived.Test.YtmjpnfapjcfejaaGreatDoorGsure
namespace Go.Proofs.YtmjpnfapjcfejaaGreatDoor
open Go Go.RowKit VC
set_option linter.unusedSimpArgs false
set_option linter.unusedVariables false

theorem repairSure_c {w : World} {sv fv hv bv : Value} {s h : List Int} {b L : List Atm} (hs : SlI w sv s) (hl : SlA w fv L) (hh : SlI w hv h) (hb : SlA w bv b) (hT : Tab w) :
    Calls Tryz.prog 8 #[sv, fv, .agg #[hv, bv]] w (Ret w (.bool true)) := by
  refine f8_calls _ _ _ ⟨_, rfl, fun w1 hw1 => ?_⟩
  have g1 := alloc_grow hw1
  have hQ := RecV.new hw1
  refine args7 (hs.grow g1) (hl.gr g1) (hh.grow g1) (hb.gr g1) (fun g => (hQ.grow g).all) fun s1 f1 h1 b1 w11 o1 o2 o3 o4 g11 => (sure_c o1 o2 o3 o4 (hT.grow (g1.trans g11))).mono ?_
  rw [askE_tr]
  rintro e w14 ⟨lv, rfl, hlv, g14⟩
  have g114 := g11.trans g14
  have g014 := g1.trans g114
  refine ⟨_, _, rfl, args7 (hs.grow g014) (hl.gr g014) (hh.grow g014) (hb.gr g014) (fun g => (hQ.grow (g114.trans g)).all) fun s2 f2 h2 b2 w25 p1 p2 p3 p4 g25 => (range_c p1 p2 p3 p4 (hT.grow (g014.trans g25))).mono ?_⟩
  unfold RangeR
  rw [askE_tr]
  rintro e w28 ⟨lo, hi, rfl, hz, hr, g28⟩
  have g128 := (g114.trans g25).trans g28
  have g028 := g1.trans g128
  refine ⟨_, _, _, rfl, [_, _], rfl, (hQ.grow g128).all, (asked7_c (hs.grow g028) (hl.gr g028) (hh.grow g028) (hb.gr g028)).mono ?_⟩
  rintro e w34 ⟨rfl, g34⟩
  have g034 := g028.trans g34
  rw [Bool.not_true]
  have hlv34 := hlv.gr ((g25.trans g28).trans g34)
  have fin : ∀ {E : World} {K : Bool → World → Prop}, Grow w E → (∀ w', Grow w w' → K true w') → Calls Tryz.prog 16 #[] E fun e w' => ∃ t : Bool, e = .returned (Value.bool t) ∧ K t w' := fun gE hk => awake7_c.mono (by
    rintro e w23 ⟨rfl, g23⟩
    exact ⟨_, rfl, hk _ (gE.trans g23)⟩)
  refine ⟨_, rfl, condP_i (fun hne => ?_) fun heq => ?_⟩
  · have hne : ¬ askE false s h b L = 0 := by simpa using hne
    rw [if_neg hne] at hlv34
    obtain ⟨rfl, rfl⟩ := hz hne
    exact SlX.ln hlv34 (cT rfl (cT rfl (cT rfl (cT (decide_eq_true rfl) (cT (decide_eq_true rfl) (fin g034 fun w' g => ⟨rfl, g⟩))))))
  · have h0 : askE false s h b L = 0 := by simpa using heq
    obtain ⟨hR, hO, hq, e1, e2, e3, e4, _⟩ := askE_ok h0
    rw [if_pos h0, e1, e2, e3, e4] at hlv34
    have hr := hr h0
    rw [e1, e3, e4] at hr
    rw [h0]
    refine ⟨[_, _], rfl, (hQ.grow (g128.trans g34)).all, (refRange_c (hs.grow g034) (hl.gr g034) (hh.grow g034) (hb.gr g034) hR hO).mono ?_⟩
    rintro e w39 ⟨lo', hi', rfl, hr', g39⟩
    obtain ⟨rfl, rfl⟩ := LowHigh.uniq hr hr'
    have g039 := g034.trans g39
    refine ⟨_, _, rfl, [_, _], rfl, (hQ.grow ((g128.trans g34).trans g39)).all, (refSure_c (hs.grow g039) (hl.gr g039) (hh.grow g039) (hb.gr g039) hR hO).mono ?_⟩
    rintro e w43 ⟨lv', rfl, hlv', g43⟩
    refine ⟨_, rfl, (rows7_c (hlv34.gr (g39.trans g43)) hlv').mono ?_⟩
    rintro e w46 ⟨rfl, g46⟩
    exact ⟨_, rfl, cT (decide_eq_true rfl) (cT rfl (cT (decide_eq_true rfl) (cT (decide_eq_true rfl) (cT rfl (fin ((g039.trans g43).trans g46) fun w' g => ⟨rfl, g⟩)))))⟩
end Go.Proofs.YtmjpnfapjcfejaaGreatDoor
