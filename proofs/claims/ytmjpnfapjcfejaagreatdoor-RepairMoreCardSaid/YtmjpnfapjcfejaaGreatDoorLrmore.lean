/- The statement RepairMore, as a contract. The table of bits is laid (Tab). -/
import Derived.Test.YtmjpnfapjcfejaaGreatDoorRo
import Derived.Test.YtmjpnfapjcfejaaGreatDoorRq
import Derived.Test.YtmjpnfapjcfejaaGreatDoorGmore
namespace Go.Proofs.YtmjpnfapjcfejaaGreatDoor
open Go Go.RowKit VC
set_option linter.unusedSimpArgs false
set_option linter.unusedVariables false

theorem more1_c {w : World} {x y : Value} {xs ys : List Int} {p : Addr} (hc : w.cell? p = some x) (hx : SlI w x xs) (hy : SlI w y ys) : Calls Tryz.prog 24 #[y, .pointer (some p)] w (Ret w (.bool (decide (xs = ys)))) := by
  refine f24_calls _ _ ⟨_, hc, (equal_c hx hy).mono ?_⟩
  rintro e w2 ⟨rfl, g2⟩
  exact ⟨_, rfl, rfl, g2⟩
theorem sure_more {s h : List Int} {b L : List Atm} {f : Atm} (hq : okQ h b = true) (hR : okR s L = true) (hR' : okR s (L ++ [f]) = true) (hn : blkN (klS s) (L ++ [f]) L.length = L.length) {x : List Int} (hx : x ∈ sureR s h b L) : x ∈ sureR s h b (L ++ [f]) := by
  have nd := (okR_out hR).2.2.2.1
  have nd' := (okR_out hR').2.2.2.1
  rw [mem_sureR (allR_ne nd')]
  rw [mem_sureR (allR_ne nd)] at hx
  intro m' hm'
  have hlen : (L ++ [f]).length = L.length + 1 := by simp
  have alone : ∀ a ∈ L, kF (klS s) a ≠ kF (klS s) f := fun a ha e => by
    obtain ⟨i, hi, rfl⟩ := List.getElem_of_mem ha
    have h1 := (blk_spec (kl := klS s) (L := L ++ [f]) (i := L.length) (by omega)).2.2 i (by rw [hn]; exact hi)
    rw [fa_get (by omega), fa_get (by omega), List.getElem_append_left hi, List.getElem_append_right (Nat.le_refl _)] at h1
    simp only [Nat.sub_self, List.getElem_cons_zero] at h1
    exact h1 e
  have hrp := rp_of nd' (mem_allR.1 hm').2
  have hrp2 : Rp (klS s) L fun a => a ∈ ofM (L ++ [f]) m' ∧ a ∈ L := by
    refine ⟨fun a ha => ha.2, fun a ha => ?_, fun g g' hg hg' e => hrp.uniq g g' hg.1 hg'.1 e⟩
    obtain ⟨g, h1, h2⟩ := hrp.one a (List.mem_append_left _ ha)
    refine ⟨g, ⟨h1, ?_⟩, h2⟩
    rcases List.mem_append.1 (hrp.sub g h1) with h3 | h3
    · exact h3
    · rw [List.mem_singleton.1 h3] at h2
      exact absurd h2.symm (alone a ha)
  obtain ⟨m, hm, he⟩ := mask_of nd hrp2
  have := hx m hm
  unfold rowM at this ⊢
  exact more (okF_pos (okFs_ofM (okR_out hR').2.2.1 m')) (okB_term hq) (fun a ha => ((he a).1 ha).1) this
theorem repairMore_c {w : World} {sv fv hv bv u : Value} {s h xs : List Int} {b L : List Atm} {r : Int} (hs : SlI w sv s) (hl : SlA w fv L) (hh : SlI w hv h) (hb : SlA w bv b) (hu : SlI w u xs) (hT : Tab w) :
    Calls Tryz.prog 5 #[sv, fv, .agg #[hv, bv], .agg #[.int .i64 r, u]] w (Ret w (.bool true)) := by
  refine f5_calls _ _ _ _ ⟨_, rfl, fun w1 hw1 => ⟨_, rfl, fun w3 hw3 d => ?_⟩⟩
  have g1 := alloc_grow hw1
  have g3 := alloc_grow hw3
  have gd : Grow w3 (dr w3 d.1) := (Grow.refl w3).dr d.1
  have g03 := (g1.trans g3).trans gd
  have hQ := ((RecV.new hw1).grow g3).grow gd
  have hF := (RecV.new hw3).grow gd
  refine ⟨[_, _], rfl, hQ.all, (few7_c (hs.grow g03)).mono ?_⟩
  rintro e w7 ⟨s1, rfl, o1, g7⟩
  refine ⟨_, rfl, g7, (factsS_c (hl.gr (g03.trans g7))).mono ?_⟩
  rintro e w10 ⟨f1, rfl, o2, g10⟩
  refine ⟨_, rfl, g10, (ofS_c (hh.grow ((g03.trans g7).trans g10)) (hb.gr ((g03.trans g7).trans g10))).mono ?_⟩
  rintro e w13 ⟨h1, b1, rfl, o3, o4, g13⟩
  have g313 := (g7.trans g10).trans g13
  refine ⟨_, rfl, g13, (sure_c (SlI.grow (Own.slI o1) (g10.trans g13)) (o2.gr g13) o3 o4 (hT.grow (g03.trans g313))).mono ?_⟩
  rw [askE_tr]
  rintro e w16 ⟨va, rfl, hva, g16⟩
  have g316 := g313.trans g16
  have g016 := g03.trans g316
  refine ⟨_, _, rfl, g16, fun d2 => ?_⟩
  have gd2 : Grow w16 (dr w16 d2.1) := (Grow.refl w16).dr d2.1
  have gD := g016.trans gd2
  refine ⟨_, (hF.grow (g316.trans gd2)).cell (j := 0) rfl, _, (hF.grow (g316.trans gd2)).cell (j := 1) rfl, (facts_c (hl.gr gD)).mono ?_⟩
  rintro e w23 ⟨f2, rfl, o5, g23⟩
  refine ⟨_, rfl, g23, (few7_c (hu.grow (gD.trans g23))).mono ?_⟩
  rintro e w26 ⟨u2, rfl, o6, g26⟩
  have g026 := (gD.trans g23).trans g26
  have hs23 := g23.size
  have hs26 := g26.size
  refine ⟨_, rfl, g26, Own.one o6, bs1 el_fact (by omega) (by omega) (cs := #[.int .i64 r, u2]) rfl w26 fun w29 hw29 => ?_⟩
  have hfl : (trF L).length ≤ 26 := by unfold trF; rw [List.length_map, List.length_take]; omega
  refine pappX1 el_fact (by omega) (cs := [.int .i64 r, u2]) (y := (r, xs.take 9)) (o5.grow g26) hw29 (elx_own o6 (fun b hb => by have hb : b < (dr w16 d2.1).heap.size := hb; omega) fun b hb => (o5.lt hb).2) (by omega) (by omega) (by omega) ?_
  intro mv w32 ho2 hf2 _ _
  have g2332 : Grow w32 w32 := Grow.refl _
  have gD32 : Grow (dr w16 d2.1) w32 := ((g23.trans g26).trans (alloc_grow hw29)).fr hf2 fun q hq e => by have := (o5.lt e.symm).1; omega
  have g032 := gD.trans gD32
  obtain ⟨M, hM⟩ : ∃ M, M = trF L ++ [(r, xs.take 9)] := ⟨_, rfl⟩
  rw [← hM] at ho2
  have hm : SlA w32 mv M := OwnX.slX ho2
  intro d3
  have gd3 : Grow w32 (dr w32 d3.1) := (Grow.refl w32).dr d3.1
  have gE := g032.trans gd3
  have hQE := ((hQ.grow (g316.trans gd2)).grow gD32).grow gd3
  refine ⟨[_, _], rfl, hQE.all, (few7_c (hs.grow gE)).mono ?_⟩
  rintro e w35 ⟨s2, rfl, o7, g35⟩
  refine ⟨_, rfl, g35, (ofS_c (hh.grow (gE.trans g35)) (hb.gr (gE.trans g35))).mono ?_⟩
  rintro e w38 ⟨h2, b2, rfl, o8, o9, g38⟩
  have gE38 := g35.trans g38
  refine ⟨_, rfl, g38, (sure_c (SlI.grow (Own.slI o7) g38) (hm.gr (gd3.trans gE38)) o8 o9 (hT.grow (gE.trans gE38))).mono ?_⟩
  rintro e w41 ⟨vb, rfl, hvb, g41⟩
  have g041 := (gE.trans gE38).trans g41
  refine ⟨_, _, rfl, g41, (few7_c (hs.grow g041)).mono ?_⟩
  rintro e w45 ⟨s3, rfl, o10, g45⟩
  refine ⟨_, rfl, (blocks_c (Own.slI o10) (hm.gr (((gd3.trans gE38).trans g41).trans g45))).mono ?_⟩
  rintro e w48 ⟨lv, rfl, hlv, g48⟩
  have g048 := (g041.trans g45).trans g48
  have fin : ∀ {E : World} {K : Bool → World → Prop}, Grow w E → (∀ w', Grow w w' → K true w') → Calls Tryz.prog 16 #[] E fun e w' => ∃ t : Bool, e = .returned (Value.bool t) ∧ K t w' := fun gE hk => awake7_c.mono (by
    rintro e w23 ⟨rfl, g23⟩
    exact ⟨_, rfl, hk _ (gE.trans g23)⟩)
  have aw : ∀ {K : Bool → World → Prop}, (∀ w', Grow w w' → K true w') → Calls Tryz.prog 16 #[] w48 fun e w' => ∃ t : Bool, e = .returned (Value.bool t) ∧ K t w' := fun hk => fin g048 hk
  refine ⟨_, _, rfl, condP_i (fun hne => cT hne (aw fun w' g => ⟨rfl, g⟩)) fun heq => ?_⟩
  have h0 : askE false s h b L = 0 := by simpa using heq
  obtain ⟨hR, hO, hq, e1, e2, e3, e4, _⟩ := askE_ok h0
  rw [e1, e2, e3] at hvb ⊢
  rw [e1] at hlv
  rw [if_pos h0, e1, e2, e3, e4] at hva
  rw [e4] at hM
  have hn0 : (!decide (askE false s h b L = 0)) = false := by rw [h0]; rfl
  refine condP_i (fun hne2 => cF hn0 ?_) fun heq2 => ?_
  · have hne2 : ¬ askE false s h b M = 0 := by simpa using hne2
    refine cF (decide_eq_false hne2) ?_
    rcases askE_cases false s h b M with h3 | h3 | h3
    · exact absurd h3 hne2
    · exact cT (decide_eq_true h3) (aw fun w' g => ⟨rfl, g⟩)
    · exact cF (decide_eq_false (by omega)) (cT (decide_eq_true h3) (aw fun w' g => ⟨rfl, g⟩))
  have h0' : askE false s h b M = 0 := by simpa using heq2
  obtain ⟨hR', hO', _⟩ := askE_ok h0'
  rw [if_pos h0'] at hvb
  rw [if_pos hR'] at hlv ⊢
  have hMl : M.length = L.length + 1 := by rw [hM]; simp
  have hM12 := (okR_out hR').2.1
  refine cF rfl (hlv.ln ?_)
  rw [blksL_len]
  refine ⟨by unfold inR; omega, hlv.rd (by omega : ((M.length : Nat) : Int) - 1 = ((L.length : Nat) : Int)) (by rw [blksL_len]; omega) (hlv.ln ?_)⟩
  have hget : (blksL s M)[L.length]'(by rw [blksL_len]; omega) = (blkN (klS s) M L.length : Int) := blksL_get _
  rw [hget, blksL_len]
  refine ⟨by unfold inR; omega, condP_i (fun hne3 => cF hn0 (cT (decide_eq_true h0') (aw fun w' g => ⟨rfl, g⟩))) fun heq3 => ?_⟩
  have hbk : blkN (klS s) M L.length = L.length := by
    have : (blkN (klS s) M L.length : Int) = (M.length : Int) - 1 := by simpa using heq3
    omega
  have hva48 := hva.gr (((((gd2.trans gD32).trans gd3).trans gE38).trans g41).trans (g45.trans g48))
  have hvb48 := hvb.gr (g45.trans g48)
  have hsl : (sureR s h b L).length ≤ 20000 := by
    unfold sureR sureK
    split
    · simp
    · exact Nat.le_trans (List.length_filter_le _ _) (rowM_len hO _)
  refine SlX.ln hva48 ⟨fun t w' => ∃ k : Nat, t = k ∧ k ≤ (sureR s h b L).length ∧ Grow w48 w', fun t _ => (sureR s h b L).length - t.toNat, ⟨0, rfl, by omega, Grow.refl _⟩, ?_⟩
  rintro - t w117 ⟨k, rfl, hk, g117⟩
  refine condD (fun hlt => ?_) fun hge => fin (g048.trans g117) fun w' g => ⟨rfl, g⟩
  have hkl : k < (sureR s h b L).length := by omega
  refine rdR hva48 g117 rfl hkl fun x hx w122 hw122 => ⟨hx.one, ⟨_, (Box.new hw122).cell⟩, (Box.new hw122).free, fun w123 hw123 => ?_⟩
  have g123 : Grow w117 w123 := (alloc_grow hw122).fr (set_fr hw123) fun i hi e => by have e : i = w117.heap.size := e; omega
  have hbx := (Box.new hw122).set hw123
  have g48123 := g117.trans g123
  refine (containsL_c (p := fun y => decide ((sureR s h b L)[k] = y)) (hvb48.gr g48123) ⟨24, #[], _, rfl, rfl, fun y hy w' v gg hv => ?_⟩).mono ?_
  · rw [app1]
    exact more1_c (gg.cell hbx.cell) (hx.grow (g48123.trans gg)) hv
  · rintro e w124 ⟨rfl, g124⟩
    have hin := sure_more hq hR (by rw [← hM]; exact hR') (by rw [← hM]; exact hbk) (List.getElem_mem hkl)
    rw [← hM] at hin
    have hany : (sureR s h b M).any (fun y => decide ((sureR s h b L)[k] = y)) = true := List.any_eq_true.2 ⟨_, hin, decide_eq_true rfl⟩
    rw [hany]
    exact ⟨_, rfl, cF rfl ⟨by unfold inR; omega, ⟨k + 1, by omega, by omega, g48123.trans g124⟩, by dsimp only; omega⟩⟩
end Go.Proofs.YtmjpnfapjcfejaaGreatDoor
