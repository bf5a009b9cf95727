/- The statement RepairProducts, as a contract. The table of bits is laid (Tab). -/
import Derived.Test.YtmjpnfapjcfejaaGreatDoorRo
import Derived.Test.YtmjpnfapjcfejaaGreatDoorRq
import Derived.Test.YtmjpnfapjcfejaaGreatDoorGproducts
namespace Go.Proofs.YtmjpnfapjcfejaaGreatDoor
open Go Go.RowKit VC
set_option linter.unusedSimpArgs false
set_option linter.unusedVariables false

section
variable {kl : Int → Nat} {L : List Atm}
/-- How many facts stand in the block that begins at j. -/
def szN (kl : Int → Nat) (L : List Atm) (k j : Nat) : Nat := ((List.range k).filter fun i => decide (blkN kl L i = j)).length
def pkN (kl : Int → Nat) (L : List Atm) : Nat → Nat
  | 0 => 1
  | k + 1 => pkN kl L k * max 1 (szN kl L L.length k)
theorem szN_bits (j : Nat) : (bitsOf L.length (bmask kl L L.length j)).length = szN kl L L.length j := by
  unfold bitsOf szN
  congr 1
  refine List.filter_congr fun i hi => ?_
  rw [Bool.eq_iff_iff, bmask_bit, decide_eq_true_eq]
  exact ⟨fun h => h.2, fun h => ⟨List.mem_range.1 hi, h⟩⟩
theorem szN_key {j : Nat} (hj : j < L.length) (h : blkN kl L j = j) : 1 ≤ szN kl L L.length j :=
  List.length_pos_of_mem (List.mem_filter.2 ⟨List.mem_range.2 hj, decide_eq_true h⟩)
theorem szN_none {j : Nat} (h : blkN kl L j ≠ j) : szN kl L L.length j = 0 := by
  unfold szN
  rw [List.length_eq_zero_iff, List.filter_eq_nil_iff]
  intro i hi e
  have e := of_decide_eq_true e
  have := blk_blk (kl := kl) (L := L) (List.mem_range.1 hi)
  rw [e] at this
  exact h this
theorem pkN_prod : ∀ k, k ≤ L.length → (prodR L.length ((keysN kl L k).map (bmask kl L L.length))).length = pkN kl L k
  | 0, _ => rfl
  | k + 1, hk => by
    have ih := pkN_prod k (by omega)
    have keys : keysN kl L (k + 1) = keysN kl L k ++ (if blkN kl L k = k then [k] else []) := by
      unfold keysN
      rw [List.range_succ, List.filter_append]
      congr 1
      by_cases e : blkN kl L k = k <;> simp [e]
    rw [keys, pkN]
    by_cases e : blkN kl L k = k
    · rw [if_pos e, List.map_append, List.map_cons, List.map_nil, prodR_app, mulR_len, ih, szN_bits]
      have := szN_key (by omega) e
      rw [Nat.max_eq_right this]
    · rw [if_neg e, List.append_nil, ih, szN_none e]
      simp
theorem pkN_all : pkN kl L L.length = (allR kl L).length := by
  rw [← pkN_prod L.length (Nat.le_refl _)]
  have e : (keysN kl L L.length).map (bmask kl L L.length) = (kvP kl L L.length).map Prod.snd := by
    unfold keysN kvP
    rw [List.map_map]
    rfl
  rw [e]
  obtain ⟨h1, h2⟩ := prod_all (kl := kl) (L := L) (List.Perm.refl _)
  have hn : (allR kl L).Nodup := List.nodup_range.filter _
  have a := sub_len h1 fun x hx => (h2 x).1 hx
  have b := sub_len hn fun x hx => (h2 x).2 hx
  omega
theorem pkN_mono : ∀ {j k : Nat}, j ≤ k → pkN kl L j ≤ pkN kl L k
  | j, 0, h => by
    have : j = 0 := by omega
    subst this
    exact Nat.le_refl _
  | j, k + 1, h => by
    rcases Nat.lt_or_ge k j with h2 | h2
    · have : j = k + 1 := by omega
      subst this
      exact Nat.le_refl _
    · refine Nat.le_trans (pkN_mono h2) ?_
      rw [pkN]
      exact Nat.le_mul_of_pos_right _ (by omega)
/-- One repair alone: all facts. -/
theorem one_all (hn : L.Nodup) (h1 : (allR kl L).length ≤ 1) {m : Nat} (hm : m ∈ allR kl L) (a : Atm) : a ∈ ofM L m ↔ a ∈ L := by
  refine ⟨ofM_sub, fun ha => ?_⟩
  obtain ⟨m', hm', he⟩ := mask_of hn ((rp_of hn (mem_allR.1 hm).2).put ha)
  have e : m' = m := by
    obtain ⟨i, hi, e1⟩ := List.getElem_of_mem hm
    obtain ⟨j, hj, e2⟩ := List.getElem_of_mem hm'
    have : i = j := by omega
    subst this
    exact e2.symm.trans e1
  subst e
  exact (he a).2 (.inr rfl)
end
theorem sure_one {s h : List Int} {b L : List Atm} (hR : okR s L = true) (h1 : (allR (klS s) L).length ≤ 1) (hO : (askO h b L).1 = 0) : sureR s h b L = (resO h b L).2 := by
  have hn := (okR_out hR).2.2.2.1
  have hpos : 0 < (allR (klS s) L).length := List.length_pos_iff.2 (allR_ne hn)
  have e1 : (allR (klS s) L).length = 1 := by omega
  have hr : (resO h b L).1 = 0 := by rw [← askO_resO]; exact hO
  rw [sureR, e1, sureK_one hpos, (resO_ok hr).2.2]
  unfold rowM
  rw [srtF_congr (one_all hn h1 (List.getElem_mem hpos))]
theorem resO_nil {h : List Int} {b l : List Atm} (hne : (resO h b l).1 ≠ 0) : (resO h b l).2 = [] := by
  unfold resO at hne ⊢
  split
  · split
    · rename_i h1 _ _ h2
      rw [if_pos h1, h2] at hne
      exact absurd rfl hne
    · rfl
  · rfl
theorem askE_res {s h : List Int} {b L : List Atm} (hR : okR s L = true) : askE false s h b L = (resO h b L).1 := by
  unfold askE
  rw [hR, Bool.false_and, Bool.not_false, Bool.true_and, if_pos rfl, askO_resO]
theorem repairProducts_c {w : World} {sv fv hv bv : Value} {s h : List Int} {b L : List Atm} (hs : SlI w sv s) (hl : SlA w fv L) (hh : SlI w hv h) (hb : SlA w bv b) (hT : Tab w) :
    Calls Tryz.prog 6 #[sv, fv, .agg #[hv, bv]] w (Ret w (.bool true)) := by
  refine f6_calls _ _ _ ⟨_, rfl, fun w1 hw1 => ?_⟩
  have g1 := alloc_grow hw1
  have hQ := RecV.new hw1
  refine (few7_c (hs.grow g1)).mono ?_
  rintro e w3 ⟨s1, rfl, o1, g3⟩
  refine ⟨_, rfl, (factsS_c (hl.gr (g1.trans g3))).mono ?_⟩
  rintro e w6 ⟨f1, rfl, o2, g6⟩
  refine ⟨_, rfl, (blocks_c (SlI.grow (Own.slI o1) g6) o2).mono ?_⟩
  rw [okR_tr]
  rintro e w9 ⟨lv, rfl, hlv, g9⟩
  have g19 := (g3.trans g6).trans g9
  refine ⟨_, _, rfl, (few7_c (hs.grow (g1.trans g19))).mono ?_⟩
  rintro e w13 ⟨s2, rfl, o3, g13⟩
  refine ⟨_, rfl, (factsS_c (hl.gr ((g1.trans g19).trans g13))).mono ?_⟩
  rintro e w16 ⟨f2, rfl, o4, g16⟩
  refine ⟨_, rfl, (repairsN_c (SlI.grow (Own.slI o3) g16) o4).mono ?_⟩
  rw [okR_tr]
  rintro e w19 ⟨rfl, g19'⟩
  have g119 := ((g19.trans g13).trans g16).trans g19'
  have g019 := g1.trans g119
  have fin : ∀ {E : World} {K : Bool → World → Prop}, Grow w E → (∀ w', Grow w w' → K true w') → Calls Tryz.prog 16 #[] E fun e w' => ∃ t : Bool, e = .returned (Value.bool t) ∧ K t w' := fun gE hk => awake7_c.mono (by
    rintro e w23 ⟨rfl, g23⟩
    exact ⟨_, rfl, hk _ (gE.trans g23)⟩)
  refine ⟨_, _, rfl, condP_i (fun hne => ?_) fun heq => ?_⟩
  · have hne : okR s L = false := by
      cases hr : okR s L with
      | false => rfl
      | true => rw [hr] at hne; simp at hne
    rw [hne]
    exact cT rfl (cT rfl (fin g019 fun w' g => ⟨rfl, g⟩))
  have hR : okR s L = true := by
    cases hr : okR s L with
    | true => rfl
    | false => rw [hr] at heq; simp at heq
  obtain ⟨e4, e1⟩ := okR_trF hR
  rw [if_pos hR, e4, e1] at hlv
  rw [if_pos hR, if_pos hR, e4, e1]
  have hlv19 := hlv.grow (((g13.trans g16).trans g19'))
  have h12 := (okR_out hR).2.1
  have hal := allR_len (klS s) L h12
  refine cF rfl (hlv19.ln ?_)
  rw [blksL_len]
  have hget : ∀ i (hi : i < L.length), (blksL s L)[i]'(by rw [blksL_len]; exact hi) = (blkN (klS s) L i : Int) := fun i hi => blksL_get _
  refine ⟨fun all t w' => ∃ k : Nat, t = k ∧ k ≤ L.length ∧ all = (pkN (klS s) L k : Int) ∧ w' = w19, fun _ t _ => L.length - t.toNat, ⟨0, rfl, by omega, rfl, rfl⟩, ?_⟩
  rintro - all t w37 ⟨k, rfl, hk, rfl, rfl⟩
  refine condD (fun hlt => ?_) fun hge => ?_
  · have hkl : k < L.length := by omega
    obtain ⟨q1, q2, q3⟩ := blk_spec (kl := klS s) hkl
    have q4 := blk_lt (kl := klS s) hkl
    refine hlv19.rd rfl (by rw [blksL_len]; exact hkl) (hlv19.ln ?_)
    rw [hget k hkl, blksL_len]
    refine ⟨fun size t w' => ∃ j : Nat, t = j ∧ j ≤ L.length ∧ size = (szN (klS s) L j k : Int) ∧ w' = w37, fun _ t _ => L.length - t.toNat, ⟨0, rfl, by omega, rfl, rfl⟩, ?_⟩
    rintro - size t w50 ⟨j, rfl, hj, rfl, rfl⟩
    have hsz : szN (klS s) L j k ≤ j := by
      have := List.length_filter_le (fun i => decide (blkN (klS s) L i = k)) (List.range j)
      rwa [List.length_range] at this
    refine condD (fun hlt2 => ?_) fun hge2 => ?_
    · have hjl : j < L.length := by omega
      have hst : szN (klS s) L (j + 1) k = szN (klS s) L j k + (if blkN (klS s) L j = k then 1 else 0) := by
        unfold szN
        rw [List.range_succ, List.filter_append, List.length_append, List.filter_cons]
        by_cases e : blkN (klS s) L j = k <;> simp [e]
      refine hlv19.rd rfl (by rw [blksL_len]; exact hjl) ?_
      rw [hget j hjl]
      refine condD (fun he => ?_) fun hne => ?_
      · rw [if_pos (by omega)] at hst
        exact ⟨by unfold inR; omega, by unfold inR; omega, ⟨j + 1, by omega, by omega, by rw [hst]; omega, rfl⟩, by dsimp only; omega⟩
      · rw [if_neg (by omega)] at hst
        exact ⟨by unfold inR; omega, ⟨j + 1, by omega, by omega, by rw [hst]; omega, rfl⟩, by dsimp only; omega⟩
    · have hjl : j = L.length := by omega
      subst hjl
      refine cF (decide_eq_false (by omega)) (cF (decide_eq_false (by omega)) (hlv19.rd rfl (by rw [blksL_len]; exact q4) ?_))
      rw [hget _ q4, blk_blk hkl]
      have hstep : (pkN (klS s) L k : Int) * (if (1 : Int) < (szN (klS s) L L.length k : Int) then (szN (klS s) L L.length k : Int) else 1) = (pkN (klS s) L (k + 1) : Int) := by
        rw [pkN, Int.natCast_mul]
        congr 1
        split <;> omega
      rw [hstep]
      have := pkN_mono (kl := klS s) (L := L) (show k + 1 ≤ L.length by omega)
      rw [pkN_all] at this
      exact cF (by simp) ⟨by unfold inR; omega, by unfold inR; omega, ⟨k + 1, by omega, by omega, rfl, rfl⟩, by dsimp only; omega⟩
  · have hkl : k = L.length := by omega
    subst hkl
    rw [pkN_all]
    refine cF (by simp) ?_
    refine args7 (hs.grow g019) (hl.gr g019) (hh.grow g019) (hb.gr g019) (fun g => (hQ.grow (g119.trans g)).all) fun s3 f3 h3 b3 w67 p1 p2 p3 p4 g67 => (sure_c p1 p2 p3 p4 (hT.grow (g019.trans g67))).mono ?_
    rw [askE_tr]
    rintro e w70 ⟨va, rfl, hva, g70⟩
    have g170 := (g119.trans g67).trans g70
    have g070 := g1.trans g170
    refine ⟨_, _, rfl, [_, _], rfl, (hQ.grow g170).all, (ofS_c (hh.grow g070) (hb.gr g070)).mono ?_⟩
    rintro e w75 ⟨h4, b4, rfl, r1, r2, g75⟩
    refine ⟨_, rfl, (factsS_c (hl.gr (g070.trans g75))).mono ?_⟩
    rintro e w78 ⟨f4, rfl, r3, g78⟩
    refine ⟨_, rfl, (results_c (r1.grow g78) (r2.gr g78) r3).mono ?_⟩
    rw [resO_tr]
    rintro e w81 ⟨vb, rfl, hvb, g81⟩
    have g7081 := (g75.trans g78).trans g81
    refine ⟨_, _, rfl, condD (fun h1 => fin (g070.trans g7081) fun w' g => ⟨rfl, g⟩) fun h1 => ?_⟩
    have h1 : (allR (klS s) L).length ≤ 1 := by omega
    refine cT (decide_eq_true (askE_res hR)) ((rows7_c (hva.gr g7081) hvb).mono ?_)
    rintro e w88 ⟨rfl, g88⟩
    refine ⟨_, rfl, cT (decide_eq_true ?_) (fin ((g070.trans g7081).trans g88) fun w' g => ⟨rfl, g⟩)⟩
    by_cases h0 : askE false s h b L = 0
    · obtain ⟨_, hO, _, e1, e2, e3, e4, _⟩ := askE_ok h0
      rw [if_pos h0, e1, e2, e3, e4]
      exact sure_one hR h1 hO
    · rw [if_neg h0, resO_nil (by rw [← askE_res hR]; exact h0)]
end Go.Proofs.YtmjpnfapjcfejaaGreatDoor
