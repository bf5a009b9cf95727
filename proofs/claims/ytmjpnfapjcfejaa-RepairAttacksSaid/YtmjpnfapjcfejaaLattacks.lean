/- The statement RepairAttacks, as a contract. No condition. -/
import Derived.Test.YtmjpnfapjcfejaaSj
import Derived.Test.YtmjpnfapjcfejaaSk
import Derived.Test.YtmjpnfapjcfejaaRl
import Derived.Test.YtmjpnfapjcfejaaRn
import Derived.Test.YtmjpnfapjcfejaaGattacks
namespace Go.Proofs.Ytmjpnfapjcfejaa
open Go Go.RowKit VC
set_option linter.unusedSimpArgs false
set_option linter.unusedVariables false

theorem repairAttacks_c {w : World} {sv hv bv : Value} {s h : List Int} {b : List Atm} (hs : SlI w sv s) (hh : SlI w hv h) (sb : SlA w bv b) : Calls Try.prog 3 #[sv, .agg #[hv, bv]] w (Ret w (.bool true)) := by
  refine f3_calls _ _ ⟨_, rfl, fun w1 hw1 d => ?_⟩
  have g1 := alloc_grow hw1
  have hQ := RecV.new hw1
  have gd : Grow w1 (dr w1 d.1) := (Grow.refl w1).dr d.1
  have g0d := g1.trans gd
  refine ⟨[_, _], rfl, (hQ.grow gd).all, (few7_c (hs.grow g0d)).mono ?_⟩
  rintro e w5 ⟨s1, rfl, o1, g5⟩
  refine ⟨_, rfl, g5, (ofS_c (hh.grow (g0d.trans g5)) (sb.gr (g0d.trans g5))).mono ?_⟩
  rintro e w8 ⟨h1, b1, rfl, o2, o3, g8⟩
  refine ⟨_, rfl, g8, (AttacksP_c (SlI.grow (Own.slI o1) g8) o2 o3).mono ?_⟩
  rw [askN_tr]
  rintro e w11 ⟨lv, rfl, hl, g11⟩
  have g111 := ((gd.trans g5).trans g8).trans g11
  have g011 := g1.trans g111
  refine ⟨_, _, rfl, g11, (refSchema_c (hs.grow g011)).mono ?_⟩
  rintro e w15 ⟨rfl, g15⟩
  have g115 := g111.trans g15
  have g015 := g1.trans g115
  have fin : ∀ {E : World} {K : Bool → World → Prop}, Grow w E → (∀ w', Grow w w' → K true w') → Calls Try.prog 11 #[] E fun e w' => ∃ t : Bool, e = .returned (Value.bool t) ∧ K t w' := fun gE hk => awake7_c.mono (by
    rintro e w23 ⟨rfl, g23⟩
    exact ⟨_, rfl, hk _ (gE.trans g23)⟩)
  have no : ∀ {E : World} (z : Int), Grow w E → askN s h b = z → z ≠ 0 → Grow w11 E → ∃ (a_v18 : Option Addr) (n_v19 c_v20 : Nat), lv = Value.slice a_v18 n_v19 c_v20 ∧ condP (decide ((n_v19 : Int) = (0 : Int))) (condP (decide (askN s h b = z)) (Calls Try.prog 11 #[] E fun e_v22 w_v21 => ∃ t_v23 : Bool, e_v22 = .returned (Value.bool t_v23) ∧ Ret w (.bool true) (.returned (Value.bool t_v23)) w_v21) (Ret w (.bool true) (.returned (Value.bool false)) E)) (Ret w (.bool true) (.returned (Value.bool false)) E) := fun z gE hz hne g => by
    have hl2 := SlR.grow hl g
    rw [if_neg (by rw [hz]; exact hne)] at hl2
    exact SlR.ln hl2 (cT (decide_eq_true rfl) (cT (decide_eq_true hz) (fin gE fun w' g => ⟨rfl, g⟩)))
  have two : ∀ {E : World}, Grow w E → Grow w11 E → (okS s && okQ h b && keyB s b) = false → _ := fun {E} gE g hn => no (E := E) 2 gE (by unfold askN; rw [hn]; rfl) (by decide) g
  refine ⟨_, rfl, condP_i (fun hn => two g015 g15 ?_) fun hS => ?_⟩
  · have hn : okS s = false := by simpa using hn
    rw [hn]; rfl
  have hS : okS s = true := by simpa using hS
  refine ⟨[_, _], rfl, (hQ.grow g115).all, (refValid_c (hh.grow g015) (sb.gr g015)).mono ?_⟩
  rintro e w25 ⟨rfl, g25⟩
  have g125 := g115.trans g25
  have g025 := g1.trans g125
  refine ⟨_, rfl, condP_i (fun hn => two g025 (g15.trans g25) ?_) fun hq => ?_⟩
  · have hn : okQ h b = false := by simpa using hn
    rw [hn]; simp
  have hq : okQ h b = true := by simpa using hq
  have oA := okQ_all hq
  refine ⟨[_, _], rfl, (hQ.grow g125).all, (refKeyed_c (hs.grow g025) (sb.gr g025) hS oA).mono ?_⟩
  rintro e w35 ⟨rfl, g35⟩
  have g135 := g125.trans g35
  have g035 := g1.trans g135
  refine ⟨_, rfl, condP_i (fun hn => two g035 ((g15.trans g25).trans g35) ?_) fun hK => ?_⟩
  · have hn : keyB s b = false := by simpa using hn
    rw [hn]; simp
  have hK : keyB s b = true := by simpa using hK
  have hall : (okS s && okQ h b && keyB s b) = true := by rw [hS, hq, hK]; rfl
  refine ⟨[_, _], rfl, (hQ.grow g135).all, (refPlain_c (sb.gr g035)).mono ?_⟩
  rintro e w45 ⟨rfl, g45⟩
  have g145 := g135.trans g45
  have g045 := g1.trans g145
  refine ⟨_, rfl, condP_i (fun hn => no 7 g045 ?_ (by decide) (((g15.trans g25).trans g35).trans g45)) fun hP => ?_⟩
  · have hn : plnB b = false := by simpa using hn
    unfold askN
    rw [hall, hn]; rfl
  have hP : plnB b = true := by simpa using hP
  have h0 : askN s h b = 0 := by
    unfold askN
    rw [hall, hP]; rfl
  refine ⟨[_, _], rfl, (hQ.grow g145).all, (attacksR_c (hs.grow g045) (sb.gr g045) hS oA (okQ_len hq).2.1 hK).mono ?_⟩
  rintro e w55 ⟨v, rfl, hv2, g55⟩
  rw [if_pos h0, (trB_of hq).1, okS_take hS] at hl
  refine ⟨_, rfl, (equalT_c (SlR.grow hl ((((g15.trans g25).trans g35).trans g45).trans g55)) hv2).mono ?_⟩
  rintro e w58 ⟨rfl, g58⟩
  exact ⟨_, rfl, cT (decide_eq_true rfl) (cT (decide_eq_true h0) (fin ((g045.trans g55).trans g58) fun w' g => ⟨rfl, g⟩))⟩
end Go.Proofs.Ytmjpnfapjcfejaa
