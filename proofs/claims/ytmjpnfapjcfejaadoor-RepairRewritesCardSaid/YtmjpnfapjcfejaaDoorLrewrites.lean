/- The statement RepairRewrites, as a contract. The table of bits is laid (Tab). -/
import Derived.Test.YtmjpnfapjcfejaaDoorSv
import Derived.Test.YtmjpnfapjcfejaaDoorSb
import Derived.Test.YtmjpnfapjcfejaaDoorGrewrites
namespace Go.Proofs.YtmjpnfapjcfejaaDoor
open Go Go.RowKit VC
set_option linter.unusedSimpArgs false
set_option linter.unusedVariables false

theorem repairRewrites_c {w : World} {sv fv hv bv : Value} {s h : List Int} {b L : List Atm} (hs : SlI w sv s) (hl : SlA w fv L) (hh : SlI w hv h) (hb : SlA w bv b) (hT : Tab w) :
    Calls Tryd.prog 3 #[sv, fv, .agg #[hv, bv]] w (Ret w (.bool true)) := by
  refine f3_calls _ _ _ ⟨_, rfl, fun w1 hw1 => ?_⟩
  have g1 := alloc_grow hw1
  have hQ := RecV.new hw1
  refine argsG (hs.grow g1) (hl.gr g1) (hh.grow g1) (hb.gr g1) (fun g => (hQ.grow g).all) fun s1 f1 h1 b1 w11 o1 o2 o3 o4 g11 => (RewriteP_c o1 o2 o3 o4 (hT.grow (g1.trans g11))).mono ?_
  rw [rewO_tr]
  rintro e w14 ⟨rfl, g14⟩
  have g114 := g11.trans g14
  have g014 := g1.trans g114
  have fin : ∀ {E : World}, Grow w E → Calls Tryd.prog 13 #[] E fun e w' => ∃ t : Bool, e = .returned (Value.bool t) ∧ Ret w (.bool true) (.returned (Value.bool t)) w' := fun gE => awake7_c.mono (by
    rintro e w23 ⟨rfl, g23⟩
    exact ⟨_, rfl, rfl, gE.trans g23⟩)
  have no : ∀ {E : World} {z : Int}, Grow w E → rewO s h b L = (false, z) → condP (!(rewO s h b L).1) (condP (decide ((rewO s h b L).2 = z)) (Calls Tryd.prog 13 #[] E fun e w' => ∃ t : Bool, e = .returned (Value.bool t) ∧ Ret w (.bool true) (.returned (Value.bool t)) w') (Ret w (.bool true) (.returned (Value.bool false)) E)) (Ret w (.bool true) (.returned (Value.bool false)) E) := fun gE e => by
    rw [e]
    exact cT rfl (cT (decide_eq_true rfl) (fin gE))
  refine ⟨_, _, rfl, g14, (refValidR_c (hs.grow g014) (hl.gr g014)).mono ?_⟩
  rintro e w18 ⟨rfl, g18⟩
  have g118 := g114.trans g18
  have g018 := g1.trans g118
  refine ⟨_, rfl, condP_i (fun hn => no g018 ?_) fun hok => ?_⟩
  · have hn : ¬ okR s L = true := by simpa using hn
    rw [rewO, if_neg fun h => hn h.1]
  have hok : okR s L = true := by simpa using hok
  have hS := (okR_out hok).1
  refine ⟨[_, _], rfl, (hQ.grow g118).all, (refValid_c (hh.grow g018) (hb.gr g018)).mono ?_⟩
  rintro e w25 ⟨rfl, g25⟩
  have g125 := g118.trans g25
  have g025 := g1.trans g125
  have two : (okS s && okQ h b && keyB s b) = false → rewO s h b L = (false, 2) := fun hn => by
    have ha : askN s h b = 2 := by rw [askN, hn]; rfl
    rw [rewO]
    split
    · rw [ha, if_neg (by decide)]
    · rfl
  refine ⟨_, rfl, condP_i (fun hn => no g025 (two ?_)) fun hq => ?_⟩
  · have hn : okQ h b = false := by simpa using hn
    rw [hn]; simp
  have hq : okQ h b = true := by simpa using hq
  have hA := okQ_all hq
  have h5 := (okQ_len hq).2.1
  refine ⟨_, (hQ.grow g125).cell (j := 0) rfl, hh.ln (condD (fun hpos => no g025 ?_) fun hz => ?_)⟩
  · rw [rewO, if_neg fun h => by omega]
  have hz : h.length = 0 := by omega
  refine ⟨[_, _], rfl, (hQ.grow g125).all, (refKeyed_c (hs.grow g025) (hb.gr g025) hS hA).mono ?_⟩
  rintro e w39 ⟨rfl, g39⟩
  have g139 := g125.trans g39
  have g039 := g1.trans g139
  refine ⟨_, rfl, condP_i (fun hn => no g039 (two ?_)) fun hK => ?_⟩
  · have hn : keyB s b = false := by simpa using hn
    rw [hn]; simp
  have hK : keyB s b = true := by simpa using hK
  have hall : (okS s && okQ h b && keyB s b) = true := by rw [hS, hq, hK]; rfl
  refine ⟨[_, _], rfl, (hQ.grow g139).all, (refPlain_c (hb.gr g039)).mono ?_⟩
  rintro e w46 ⟨rfl, g46⟩
  have g146 := g139.trans g46
  have g046 := g1.trans g146
  refine ⟨_, rfl, condP_i (fun hn => no g046 ?_) fun hP => ?_⟩
  · have hn : plnB b = false := by simpa using hn
    have ha : askN s h b = 7 := by rw [askN, hall, hn]; rfl
    rw [rewO, if_pos ⟨hok, hz⟩, ha, if_neg (by decide)]
  have hP : plnB b = true := by simpa using hP
  have ha : askN s h b = 0 := by rw [askN, hall, hP]; rfl
  have e1 : rewO s h b L = (if mutB (varsOf b) (keysOf s b) = true then (false, 7) else (rewR (klS s) L b.length b m0, 0)) := by rw [rewO, if_pos ⟨hok, hz⟩, if_pos ha]
  refine ⟨[_, _], rfl, (hQ.grow g146).all, (cyclicR_c (hs.grow g046) (hb.gr g046) hS hA h5 hK rfl rfl (rank_m0 hA hP)).mono ?_⟩
  rintro e w53 ⟨rfl, g53⟩
  have g153 := g146.trans g53
  have g053 := g1.trans g153
  refine ⟨_, rfl, condP_i (fun hm => no g053 ?_) fun hm => ?_⟩
  · rw [e1, if_pos hm]
  rw [if_neg (by rw [hm]; decide)] at e1
  have hre := rewQ_c hS hok b.length b m0 w53 sv fv bv rfl (hs.grow g053) (hl.gr g053) (hb.gr g053) hA hK (plnB_iff hP).1 (plnB_iff hP).2 h5 rfl posM_m0 ((acy_m0 hA hP).2 hm)
  refine ⟨_, (hQ.grow g153).cell (j := 1) rfl, hre.mono ?_⟩
  rintro e w60 ⟨rfl, g60⟩
  rw [e1]
  exact ⟨_, rfl, cT (by simp) (cT (decide_eq_true rfl) (fin (g053.trans g60)))⟩
end Go.Proofs.YtmjpnfapjcfejaaDoor
