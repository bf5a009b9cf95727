/- The statement RepairShares, as a contract. The table of bits is laid (Tab). -/
import Derived.Test.YtmjpnfapjcfejaaGreatDoorRo
import Derived.Test.YtmjpnfapjcfejaaGreatDoorGshares
namespace Go.Proofs.YtmjpnfapjcfejaaGreatDoor
open Go Go.RowKit VC
set_option linter.unusedSimpArgs false
set_option linter.unusedVariables false

theorem repairShares_c {w : World} {sv fv hv bv : Value} {s h : List Int} {b L : List Atm} (hs : SlI w sv s) (hl : SlA w fv L) (hh : SlI w hv h) (hb : SlA w bv b) (hT : Tab w) :
    Calls Tryz.prog 3 #[sv, fv, .agg #[hv, bv]] w (Ret w (.bool true)) := by
  refine f3_calls _ _ _ ⟨_, rfl, fun w1 hw1 => ?_⟩
  have g1 := alloc_grow hw1
  have hQ := RecV.new hw1
  refine args7 (hs.grow g1) (hl.gr g1) (hh.grow g1) (hb.gr g1) (fun g => (hQ.grow g).all) fun s1 f1 h1 b1 w11 o1 o2 o3 o4 g11 => ?_
  have g011 := g1.trans g11
  refine (share_c o1 o2 o3 o4 (hT.grow g011)).mono ?_
  rw [askE_tr]
  rintro e w14 ⟨rfl, g14⟩
  have g014 := g011.trans g14
  refine ⟨_, _, _, rfl, [_, _], rfl, (hQ.grow (g11.trans g14)).all, (asked7_c (hs.grow g014) (hl.gr g014) (hh.grow g014) (hb.gr g014)).mono ?_⟩
  rintro e w20 ⟨rfl, g20⟩
  have g020 := g014.trans g20
  rw [Bool.not_false]
  refine ⟨_, rfl, condP_i (fun hne => ?_) fun heq => ?_⟩
  · have hne : ¬ askE true s h b L = 0 := by simpa using hne
    rw [if_neg hne, if_neg hne]
    refine cT rfl (cT rfl (cT (decide_eq_true rfl) (awake7_c.mono ?_)))
    rintro e w23 ⟨rfl, g23⟩
    exact ⟨_, rfl, rfl, g020.trans g23⟩
  · have h0 : askE true s h b L = 0 := by simpa using heq
    obtain ⟨hR, hO, hq, e1, e2, e3, e4, _⟩ := askE_ok h0
    rw [if_pos h0, if_pos h0, e1, e3, e4, h0]
    refine ⟨[_, _], rfl, (hQ.grow ((g11.trans g14).trans g20)).all, (refShare_c (hs.grow g020) (hl.gr g020) (hh.grow g020) (hb.gr g020) hR hO).mono ?_⟩
    rintro e w27 ⟨rfl, g27⟩
    refine ⟨_, _, rfl, cT (decide_eq_true rfl) (cT (decide_eq_true rfl) (cT rfl (awake7_c.mono ?_)))⟩
    rintro e w31 ⟨rfl, g31⟩
    exact ⟨_, rfl, rfl, (g020.trans g27).trans g31⟩
end Go.Proofs.YtmjpnfapjcfejaaGreatDoor
