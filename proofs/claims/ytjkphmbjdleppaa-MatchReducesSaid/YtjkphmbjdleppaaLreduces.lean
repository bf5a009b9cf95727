/- The statement MatchReduces, as a contract. No condition. -/
import Derived.Test.YtjkphmbjdleppaaMv
namespace Go.Proofs.Ytjkphmbjdleppaa
open Go Go.RowKit VC
set_option linter.unusedSimpArgs false
set_option linter.unusedVariables false

theorem redO_tr (h : List Int) (b l : List Atm) : redO (h.take 9) (trB b) (trF l) = redO h b l := by
  unfold redO
  rw [askO_tr]
  split
  · rename_i h0
    rw [(trB_of (askO_ok h0).1).1]
  · rfl
theorem matchReduces_c {w : World} {hv bv lv : Value} {h : List Int} {b l : List Atm} (hh : SlI w hv h) (hb : SlA w bv b) (hl : SlA w lv l) : Calls Try.prog 6 #[.agg #[hv, bv], lv] w (Ret w (.bool true)) := by
  refine f6_calls _ _ ?_
  refine ⟨_, rfl, fun w1 hw1 => ?_⟩
  have g1 := alloc_grow hw1
  have k0 := boxc hw1 0 hv rfl
  have k1 := boxc hw1 1 bv rfl
  refine ⟨[_, _], rfl, two k0 k1, (ofS_c (hh.grow g1) (hb.gr g1)).mono ?_⟩
  rintro e w4 ⟨ha, ba, rfl, oha, oba, g4⟩
  refine ⟨_, rfl, (factsS_c (hl.gr (g1.trans g4))).mono ?_⟩
  rintro e w7 ⟨la, rfl, ola, g7⟩
  refine ⟨_, rfl, (reduce_c (oha.grow g7) (oba.gr g7) ola).mono ?_⟩
  rw [redO_tr]
  rintro e w10 ⟨va, rfl, sva, g10⟩
  have g110 := (g4.trans g7).trans g10
  refine ⟨_, _, rfl, [_, _], rfl, two (g110.cell k0) (g110.cell k1), (refReduce_c (hh.grow (g1.trans g110)) (hb.gr (g1.trans g110)) (hl.gr (g1.trans g110))).mono ?_⟩
  rintro e w15 ⟨vb, rfl, svb, g15⟩
  refine ⟨_, _, rfl, cT (by simp) ((sameAll_c (sva.gr g15) svb).mono ?_)⟩
  rintro e w19 ⟨rfl, g19⟩
  refine ⟨_, rfl, cT (by simp) (awake_c.mono ?_)⟩
  rintro e w22 ⟨rfl, g22⟩
  exact ⟨_, rfl, rfl, (((g1.trans g110).trans g15).trans g19).trans g22⟩
end Go.Proofs.Ytjkphmbjdleppaa
