/- The statement MatchResults, as a contract. No condition. -/
import Derived.Test.YtjkphmbjdleppaaMr
namespace Go.Proofs.Ytjkphmbjdleppaa
open Go Go.RowKit VC
set_option linter.unusedSimpArgs false
set_option linter.unusedVariables false

theorem matchResults_c {w : World} {hv bv lv : Value} {h : List Int} {b l : List Atm} (hh : SlI w hv h) (hb : SlA w bv b) (hl : SlA w lv l) : Calls Try.prog 3 #[.agg #[hv, bv], lv] w (Ret w (.bool true)) := by
  refine f3_calls _ _ ?_
  refine ⟨_, rfl, fun w1 hw1 => ?_⟩
  have g1 := alloc_grow hw1
  have k0 := boxc hw1 0 hv rfl
  have k1 := boxc hw1 1 bv rfl
  refine ⟨[_, _], rfl, two k0 k1, (ofS_c (hh.grow g1) (hb.gr g1)).mono ?_⟩
  rintro e w4 ⟨ha, ba, rfl, oha, oba, g4⟩
  refine ⟨_, rfl, (factsS_c (hl.gr (g1.trans g4))).mono ?_⟩
  rintro e w7 ⟨la, rfl, ola, g7⟩
  refine ⟨_, rfl, (results_c (oha.grow g7) (oba.gr g7) ola).mono ?_⟩
  rintro e w10 ⟨va, rfl, sva, g10⟩
  have g110 := (g4.trans g7).trans g10
  refine ⟨_, _, rfl, [_, _], rfl, two (g110.cell k0) (g110.cell k1), (refResults_c (hh.grow (g1.trans g110)) (hb.gr (g1.trans g110)) (hl.gr (g1.trans g110))).mono ?_⟩
  rintro e w15 ⟨vb, rfl, svb, g15⟩
  have g115 := g110.trans g15
  refine ⟨_, _, rfl, [_, _], rfl, two (g115.cell k0) (g115.cell k1), (ofS_c (hh.grow (g1.trans g115)) (hb.gr (g1.trans g115))).mono ?_⟩
  rintro e w20 ⟨hc, bc, rfl, ohc, obc, g20⟩
  refine ⟨_, rfl, (factsS_c (hl.gr ((g1.trans g115).trans g20))).mono ?_⟩
  rintro e w23 ⟨lc, rfl, olc, g23⟩
  refine ⟨_, rfl, (count_c (ohc.grow g23) (obc.gr g23) olc).mono ?_⟩
  rintro e w26 ⟨rfl, g26⟩
  have g126 := ((g115.trans g20).trans g23).trans g26
  refine ⟨_, _, rfl, [_, _], rfl, two (g126.cell k0) (g126.cell k1), (refCount_c (hh.grow (g1.trans g126)) (hb.gr (g1.trans g126)) (hl.gr (g1.trans g126))).mono ?_⟩
  rintro e w31 ⟨rfl, g31⟩
  have g1031 := (((g15.trans g20).trans g23).trans g26).trans g31
  refine ⟨_, _, rfl, (rows_c (sva.gr g1031) (svb.gr ((((g20.trans g23).trans g26).trans g31)))).mono ?_⟩
  rintro e w35 ⟨rfl, g35⟩
  refine ⟨_, rfl, cT (decide_eq_true (by rw [resO_tr])) (cT (decide_eq_true (by rw [resO_tr])) (cT (decide_eq_true (by rw [askO_tr])) (cT (decide_eq_true (by rw [askO_tr])) ?_)))⟩
  refine awake_c.mono ?_
  rintro e w38 ⟨rfl, g38⟩
  exact ⟨_, rfl, rfl, ((((g1.trans g126).trans g31).trans g35)).trans g38⟩
end Go.Proofs.Ytjkphmbjdleppaa
