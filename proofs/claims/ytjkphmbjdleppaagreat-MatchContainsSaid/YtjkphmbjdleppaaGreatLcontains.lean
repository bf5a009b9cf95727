/- The statement MatchContains, as a contract. No condition. -/
import Derived.Test.YtjkphmbjdleppaaGreatNg
import Derived.Test.YtjkphmbjdleppaaGreatMv
namespace Go.Proofs.YtjkphmbjdleppaaGreat
open Go Go.RowKit VC
set_option linter.unusedSimpArgs false
set_option linter.unusedVariables false

theorem matchContains_c {w : World} {hpv bpv hqv bqv : Value} {hp hq : List Int} {bp bq : List Atm} (shp : SlI w hpv hp) (sbp : SlA w bpv bp) (shq : SlI w hqv hq) (sbq : SlA w bqv bq) : Calls Tryz.prog 3 #[.agg #[hpv, bpv], .agg #[hqv, bqv]] w (Ret w (.bool true)) := by
  refine f3_calls _ _ ?_
  refine ⟨_, rfl, fun w1 hw1 => ⟨_, rfl, fun w3 hw3 => ?_⟩⟩
  have g1 := alloc_grow hw1
  have g3 := alloc_grow hw3
  have g03 := g1.trans g3
  have pp : ∀ {E}, Grow w3 E → ∀ (t : Nat) (v : Value), [hpv, bpv][t]? = some v → E.cell? (Addr.add ⟨w.heap.size, 0, none⟩ t) = some v := fun g => two ((g3.trans g).cell (boxc hw1 0 hpv rfl)) ((g3.trans g).cell (boxc hw1 1 bpv rfl))
  have qq : ∀ {E}, Grow w3 E → ∀ (t : Nat) (v : Value), [hqv, bqv][t]? = some v → E.cell? (Addr.add ⟨w1.heap.size, 0, none⟩ t) = some v := fun g => two (g.cell (boxc hw3 0 hqv rfl)) (g.cell (boxc hw3 1 bqv rfl))
  refine ⟨fun is e w' => e = (if okPQ hp bp hq bq = true then 0 else 2) ∧ (is = true ↔ okPQ hp bp hq bq = true ∧ ∃ h, IsHom hq bq hp bp h) ∧ Grow w3 w', fun m => ?_, ?_⟩
  · refine ofPQ (shp.grow g03) (sbp.gr g03) (shq.grow g03) (sbq.gr g03) pp qq (fun hA bA hB bB E sA tA sB tB gE => ?_) m
    refine (cont_tr sA tA sB tB).mono ?_
    rintro e E' ⟨b, rfl, hb, g'⟩
    exact ⟨_, _, rfl, rfl, hb, gE.trans g'⟩
  rintro - is e w45 ⟨rfl, his, g45⟩
  have g045 := g03.trans g45
  refine ⟨[_, _], rfl, pp g45, [_, _], rfl, qq g45, (refContained_c (shp.grow g045) (sbp.gr g045) (shq.grow g045) (sbq.gr g045)).mono ?_⟩
  rintro e w48 ⟨b2, rfl, hb2, g48⟩
  have hbb : is = b2 := by rw [Bool.eq_iff_iff, his, hb2]
  have g348 := g45.trans g48
  have g048 := g03.trans g348
  refine ⟨_, _, rfl, [_, _], rfl, pp g348, (ofS_c (shp.grow g048) (sbp.gr g048)).mono ?_⟩
  rintro e w53 ⟨hA, bA, rfl, sA, tA, g53⟩
  refine ⟨_, rfl, (freeze_c sA tA).mono ?_⟩
  rw [okQ_tr]
  rintro e w56 ⟨fv, rv, rfl, sf, sr, g56⟩
  have g356 := (g348.trans g53).trans g56
  refine ⟨_, _, _, rfl, cF (by rw [hbb]; cases b2 <;> rfl) (cF (by simp) (awake_c.mono ?_))⟩
  rintro e w61 ⟨rfl, g61⟩
  have g361 := g356.trans g61
  have g061 := g03.trans g361
  refine ⟨_, rfl, cF rfl ⟨[_, _], rfl, pp g361, (refValid_c (shp.grow g061) (sbp.gr g061)).mono ?_⟩⟩
  rintro e w65 ⟨rfl, g65⟩
  have g365 := g361.trans g65
  have g065 := g03.trans g365
  refine ⟨_, rfl, condP_i (fun hn => ?_) fun hk => ?_⟩
  · have hn : ¬ okQ hp bp = true := by simpa using hn
    rw [if_neg hn] at sf sr ⊢
    refine SlX.ln sf (SlI.ln sr ⟨by unfold inR; simp, cT (by simp) ⟨rfl, g065⟩⟩)
  · have ok : okQ hp bp = true := by simpa using hk
    rw [if_pos ok] at sf sr ⊢
    rw [(trB_of ok).2] at sr
    rw [(trB_of ok).1] at sf
    refine ⟨[_, _], rfl, pp g365, (refFreeze_c (shp.grow g065) (sbp.gr g065) ok).mono ?_⟩
    rintro e w75 ⟨fv2, rv2, rfl, sf2, sr2, g75⟩
    refine ⟨_, _, rfl, (same_c (sf.gr ((g61.trans g65).trans g75)) sf2).mono ?_⟩
    rintro e w79 ⟨rfl, g79⟩
    refine ⟨_, rfl, cT (by simp) ((equal_c (sr.grow (((g61.trans g65).trans g75).trans g79)) (sr2.grow g79)).mono ?_)⟩
    rintro e w82 ⟨rfl, g82⟩
    exact ⟨_, rfl, cT (by simp) ⟨rfl, ((g065.trans g75).trans g79).trans g82⟩⟩
end Go.Proofs.YtjkphmbjdleppaaGreat
