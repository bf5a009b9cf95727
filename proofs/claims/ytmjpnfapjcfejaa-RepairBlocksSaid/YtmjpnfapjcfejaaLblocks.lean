/- The statement RepairBlocks, as a contract. No condition. -/
import Derived.Test.YtmjpnfapjcfejaaRk
import Derived.Test.YtmjpnfapjcfejaaRn
import Derived.Test.YtmjpnfapjcfejaaGblocks
namespace Go.Proofs.Ytmjpnfapjcfejaa
open Go Go.RowKit VC
set_option linter.unusedSimpArgs false
set_option linter.unusedVariables false

/-- The block of a fact, by the reference: the least earlier fact (or itself) that stands together with it. -/
theorem refBlocks_c {w : World} {sv fv : Value} {s : List Int} {L : List Atm} (hs : SlI w sv s) (hl : SlA w fv L) (hR : okR s L = true) :
    Calls Try.prog 20 #[sv, fv] w fun e w' => ∃ v, e = .returned v ∧ SlI w' v (blksL s L) ∧ Grow w w' := by
  refine f20_calls _ _ ?_
  have h12 := (okR_out hR).2.1
  refine SlX.ln hl ⟨fun out t w' => ∃ k : Nat, t = k ∧ k ≤ L.length ∧ OwnI w' w.heap.size out ((blksL s L).take k) ∧ Grow w w', fun _ t _ => L.length - t.toNat, ⟨0, rfl, by omega, Own.nil _ _ _ _, Grow.refl _⟩, ?_⟩
  rintro - out t w9 ⟨k, rfl, hk, ho, g9⟩
  refine condD (fun hlt => ?_) fun hge => ?_
  · have hkl : k < L.length := by omega
    refine locR hl g9 rfl hkl rfl fun w15 u g15 s15 hu hc => ?_
    have g015 := g9.trans g15
    have hr := okF_rel (okR_all hR _ (List.getElem_mem hkl))
    have same : ∀ i (hi : i < L.length), kF (klS s) (L[k].1, L[k].2) = kF (klS s) (L[i].1, L[i].2) ↔ kF (klS s) (fa L i) = kF (klS s) (fa L k) := fun i hi => by
      rw [fa_get hi, fa_get hkl]
      exact ⟨Eq.symm, Eq.symm⟩
    refine ⟨fun at_ t w' => ∃ (j : Nat) (a : Nat), t = (j : Int) - 1 ∧ j ≤ k + 1 ∧ at_ = a ∧ a ≤ k ∧ kF (klS s) (fa L a) = kF (klS s) (fa L k) ∧ (∀ i, j ≤ i → i < a → kF (klS s) (fa L i) ≠ kF (klS s) (fa L k)) ∧ Grow w15 w', fun _ t _ => (t + 1).toNat, ⟨k + 1, k, by omega, by omega, rfl, Nat.le_refl _, rfl, fun i h1 h2 => by omega, Grow.refl _⟩, ?_⟩
    rintro - at_ t w25 ⟨j, a, rfl, hj, rfl, ha, hsame, hno, g25⟩
    have g025 := g015.trans g25
    refine condD (fun hlt2 => ?_) fun hge2 => ?_
    · obtain ⟨i, rfl⟩ : ∃ i, j = i + 1 := ⟨j - 1, by omega⟩
      have e1 : (((i + 1 : Nat) : Int) - 1) = (i : Int) := by omega
      rw [e1]
      have hil : i < L.length := by omega
      refine ⟨[_, _], rfl, (hc.grow g25).all, SlX.rd (pinR hl g025) rfl hil fun cs hcl hrr => ?_⟩
      obtain ⟨u2, rfl, hu2⟩ := hrr
      refine ⟨_, fun w28 g28 => together_c (hs.grow (g025.trans g28)) (okR_out hR).1 hr.1 hr.2 (hu.grow (g025.trans g28)) (hu2.grow (g025.trans g28)) (okR_len hR hkl hil), fun w32 g32 => condD (fun he => ?_) fun hne => ?_⟩
      · exact ⟨by unfold inR; omega, ⟨i, i, rfl, by omega, rfl, by omega, (same i hil).1 he, fun q h1 h2 => by omega, g25.trans g32⟩, by dsimp only; omega⟩
      · refine ⟨by unfold inR; omega, ⟨i, a, rfl, by omega, rfl, ha, hsame, fun q h1 h2 => ?_, g25.trans g32⟩, by dsimp only; omega⟩
        by_cases e : q = i
        · subst e
          exact fun h => hne ((same q hil).2 h)
        · exact hno q (by omega) h2
    · have hj0 : j = 0 := by omega
      subst hj0
      have hb := blk_spec (kl := klS s) hkl
      have hab : a = blkN (klS s) L k := by
        rcases Nat.lt_trichotomy a (blkN (klS s) L k) with h | h | h
        · exact absurd hsame (hb.2.2 a h)
        · exact h
        · exact absurd hb.2.1 (hno _ (Nat.zero_le _) h)
      have hlen : ((blksL s L).take k).length = k := by rw [List.length_take, blksL_len]; omega
      have hs25 := g025.size
      intro w33 hw33
      refine papp1 el_int hw33 (Own.grow ho (g15.trans g25)) rfl hs25 (by rw [hlen]; omega) (by omega) fun v' w' ho2 hf2 _ => ⟨by unfold inR; omega, ⟨k + 1, by omega, by omega, ?_, ?_⟩, by dsimp only; omega⟩
      · rw [List.take_succ_eq_append_getElem (by rw [blksL_len]; exact hkl), blksL_get, ← hab]
        unfold OwnI
        rw [List.length_append, List.map_append]
        exact ho2
      · exact (g025.trans (alloc_grow hw33)).fr hf2 fun b hb e => by have := (Own.lt ho e.symm).1; omega
  · have hkl : k = L.length := by omega
    subst hkl
    rw [List.take_of_length_le (by rw [blksL_len]; exact Nat.le_refl _)] at ho
    exact ⟨_, rfl, Own.slI ho, g9⟩
theorem repairBlocks_c {w : World} {sv fv : Value} {s : List Int} {L : List Atm} (hs : SlI w sv s) (hl : SlA w fv L) :
    Calls Try.prog 4 #[sv, fv] w (Ret w (.bool true)) := by
  refine f4_calls _ _ ?_
  refine (few7_c hs).mono ?_
  rintro e w1 ⟨s1, rfl, o1, g1⟩
  refine ⟨_, rfl, (factsS_c (hl.gr g1)).mono ?_⟩
  rintro e w4 ⟨f1, rfl, o2, g4⟩
  refine ⟨_, rfl, (blocks_c (SlI.grow (Own.slI o1) g4) o2).mono ?_⟩
  rw [okR_tr]
  rintro e w7 ⟨lv, rfl, hlv, g7⟩
  have g07 := (g1.trans g4).trans g7
  refine ⟨_, _, rfl, (few7_c (hs.grow g07)).mono ?_⟩
  rintro e w11 ⟨s2, rfl, o3, g11⟩
  refine ⟨_, rfl, (factsS_c (hl.gr (g07.trans g11))).mono ?_⟩
  rintro e w14 ⟨f2, rfl, o4, g14⟩
  refine ⟨_, rfl, (repairsN_c (SlI.grow (Own.slI o3) g14) o4).mono ?_⟩
  rw [okR_tr]
  rintro e w17 ⟨rfl, g17⟩
  have g017 := ((g07.trans g11).trans g14).trans g17
  refine ⟨_, _, rfl, (refValidR_c (hs.grow g017) (hl.gr g017)).mono ?_⟩
  rintro e w21 ⟨rfl, g21⟩
  have g021 := g017.trans g21
  have fin : ∀ {E : World} {K : Bool → World → Prop}, Grow w E → (∀ w', Grow w w' → K true w') → Calls Try.prog 11 #[] E fun e w' => ∃ t : Bool, e = .returned (Value.bool t) ∧ K t w' := fun gE hk => awake7_c.mono (by
    rintro e w23 ⟨rfl, g23⟩
    exact ⟨_, rfl, hk _ (gE.trans g23)⟩)
  have hlv21 := hlv.grow (((g11.trans g14).trans g17).trans g21)
  refine ⟨_, rfl, condP_i (fun hn => ?_) fun hk => ?_⟩
  · have hn : okR s L = false := by simpa using hn
    rw [hn] at hlv21 ⊢
    exact hlv21.ln (cT rfl (cT rfl (cT rfl (cT rfl (fin g021 fun w' g => ⟨rfl, g⟩)))))
  · have hR : okR s L = true := by simpa using hk
    obtain ⟨e4, e1⟩ := okR_trF hR
    rw [if_pos hR, e4, e1] at hlv21
    rw [if_pos hR, if_pos hR, e4, e1]
    refine (refBlocks_c (hs.grow g021) (hl.gr g021) hR).mono ?_
    rintro e w30 ⟨bv, rfl, hbv, g30⟩
    refine ⟨_, rfl, (equal_c (hlv21.grow g30) hbv).mono ?_⟩
    rintro e w33 ⟨rfl, g33⟩
    have g033 := (g021.trans g30).trans g33
    refine ⟨_, rfl, cT (decide_eq_true rfl) ((all_c (hs.grow g033) (hl.gr g033) hR).mono ?_)⟩
    rintro e w36 ⟨av, rfl, hav, g36⟩
    refine ⟨_, rfl, hav.ln (cT (decide_eq_true (by rw [natI_len])) (cT rfl (cT rfl (fin (g033.trans g36) fun w' g => ⟨rfl, g⟩))))⟩
end Go.Proofs.Ytmjpnfapjcfejaa
