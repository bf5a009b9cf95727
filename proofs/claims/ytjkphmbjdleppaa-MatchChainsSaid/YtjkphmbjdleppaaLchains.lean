/- The statement MatchChains, as a contract. No condition. -/
import Derived.Test.YtjkphmbjdleppaaNh
import Derived.Test.YtjkphmbjdleppaaG9
namespace Go.Proofs.Ytjkphmbjdleppaa
open Go Go.RowKit VC
set_option linter.unusedSimpArgs false
set_option linter.unusedVariables false

theorem matchChains_c {w : World} {hpv bpv hqv bqv hrv brv : Value} {hp hq hr : List Int} {bp bq br : List Atm} (shp : SlI w hpv hp) (sbp : SlA w bpv bp) (shq : SlI w hqv hq) (sbq : SlA w bqv bq) (shr : SlI w hrv hr) (sbr : SlA w brv br) : Calls Try.prog 10 #[.agg #[hpv, bpv], .agg #[hqv, bqv], .agg #[hrv, brv]] w (Ret w (.bool true)) := by
  refine f10_calls _ _ _ ?_
  refine ⟨_, rfl, fun w1 hw1 => ⟨_, rfl, fun w3 hw3 => ⟨_, rfl, fun w5 hw5 => ?_⟩⟩⟩
  have g1 := alloc_grow hw1
  have g3 := alloc_grow hw3
  have g5 := alloc_grow hw5
  have g05 := (g1.trans g3).trans g5
  have pp : ∀ {E}, Grow w5 E → ∀ (t : Nat) (v : Value), [hpv, bpv][t]? = some v → E.cell? (Addr.add ⟨w.heap.size, 0, none⟩ t) = some v := fun g => two (((g3.trans g5).trans g).cell (boxc hw1 0 hpv rfl)) (((g3.trans g5).trans g).cell (boxc hw1 1 bpv rfl))
  have qq : ∀ {E}, Grow w5 E → ∀ (t : Nat) (v : Value), [hqv, bqv][t]? = some v → E.cell? (Addr.add ⟨w1.heap.size, 0, none⟩ t) = some v := fun g => two ((g5.trans g).cell (boxc hw3 0 hqv rfl)) ((g5.trans g).cell (boxc hw3 1 bqv rfl))
  have rr : ∀ {E}, Grow w5 E → ∀ (t : Nat) (v : Value), [hrv, brv][t]? = some v → E.cell? (Addr.add ⟨w3.heap.size, 0, none⟩ t) = some v := fun g => two (g.cell (boxc hw5 0 hrv rfl)) (g.cell (boxc hw5 1 brv rfl))
  have aw : ∀ {E : World}, Grow w5 E → Calls Try.prog 20 #[] E fun e w' => ∃ t : Bool, e = .returned (.bool t) ∧ Ret w (.bool true) (.returned (.bool t)) w' := fun g => awake_c.mono (by
    rintro e w' ⟨rfl, g'⟩
    exact ⟨_, rfl, rfl, (g05.trans g).trans g'⟩)
  refine ⟨fun a e w' => ∃ o, e = homE hp bp hq bq o ∧ HomA hp bp hq bq o ∧ HomV w' a o ∧ Grow w5 w', fun m => ?_, ?_⟩
  · refine ofPQ (shp.grow g05) (sbp.gr g05) (shq.grow g05) (sbq.gr g05) pp qq (fun hA bA hB bB E sA tA sB tB gE => ?_) m
    refine (hom_tr sA tA sB tB).mono ?_
    rintro e E' ⟨v, o, rfl, hF, hV, g'⟩
    exact ⟨_, _, rfl, o, rfl, hF, hV, gE.trans g'⟩
  rintro - a e w47 ⟨oa, rfl, hFa, hVa, g47⟩
  have g047 := g05.trans g47
  refine ⟨fun b f w' => ∃ o, f = homE hq bq hr br o ∧ HomA hq bq hr br o ∧ HomV w' b o ∧ Grow w47 w', fun m => ?_, ?_⟩
  · refine ofPQ (shq.grow g047) (sbq.gr g047) (shr.grow g047) (sbr.gr g047) (fun g => qq (g47.trans g)) (fun g => rr (g47.trans g)) (fun hA bA hB bB E sA tA sB tB gE => ?_) m
    refine (hom_tr sA tA sB tB).mono ?_
    rintro e E' ⟨v, o, rfl, hF, hV, g'⟩
    exact ⟨_, _, rfl, o, rfl, hF, hV, gE.trans g'⟩
  rintro - b f w88 ⟨ob, rfl, hFb, hVb, g88⟩
  have g588 := g47.trans g88
  have g088 := g05.trans g588
  refine ⟨fun g w' => ∃ o, g = homE hp bp hr br o ∧ HomA hp bp hr br o ∧ Grow w88 w', fun m => ?_, ?_⟩
  · refine ofPQ (shp.grow g088) (sbp.gr g088) (shr.grow g088) (sbr.gr g088) (fun g => pp (g588.trans g)) (fun g => rr (g588.trans g)) (fun hA bA hB bB E sA tA sB tB gE => ?_) m
    refine (hom_tr sA tA sB tB).mono ?_
    rintro e E' ⟨v, o, rfl, hF, hV, g'⟩
    exact ⟨_, _, rfl, o, rfl, hF, gE.trans g'⟩
  rintro - g w128 ⟨oc, rfl, hFc, g128⟩
  have g5128 := g588.trans g128
  have g0128 := g05.trans g5128
  have cases3 : ∀ {hp hq : List Int} {bp bq : List Atm} {o : Option (List Int)}, homE hp bp hq bq o = 0 ∨ homE hp bp hq bq o = 5 ∨ homE hp bp hq bq o = 2 := fun {hp hq bp bq o} => by
    unfold homE
    split
    · split
      · exact .inl rfl
      · exact .inr (.inl rfl)
    · exact .inr (.inr rfl)
  have zero : ∀ {hp hq : List Int} {bp bq : List Atm} {o : Option (List Int)}, homE hp bp hq bq o = 0 → HomA hp bp hq bq o → ∃ x, o = some x ∧ okPQ hp bp hq bq = true ∧ IsHom hp bp hq bq x := fun {hp hq bp bq o} h0 hF => by
    unfold homE at h0
    split at h0
    · rename_i ok
      rw [HomA, if_pos ok] at hF
      cases o with
      | none => simp at h0
      | some x => exact ⟨x, rfl, ok, hF.1⟩
    · cases h0
  refine condP_i (fun h1 => cT h1 (aw g5128)) fun h1 => condP_i (fun h2 => cF h1 ?_) fun h2 => ?_
  · rcases cases3 (hp := hq) (hq := hr) (bp := bq) (bq := br) (o := ob) with h3 | h3 | h3
    · rw [h3] at h2
      cases h2
    · exact cT (decide_eq_true h3) (aw g5128)
    · exact cF (by rw [h3]; rfl) (cT (decide_eq_true h3) (aw g5128))
  have h1 : homE hp bp hq bq oa = 0 := by simpa using h1
  have h2 : homE hq bq hr br ob = 0 := by simpa using h2
  obtain ⟨xa, rfl, oka, hHa⟩ := zero h1 hFa
  obtain ⟨xb, rfl, okb, hHb⟩ := zero h2 hFb
  obtain ⟨o1, o2, o3⟩ := okPQ_iff.1 oka
  obtain ⟨-, o4, o5⟩ := okPQ_iff.1 okb
  have okc : okPQ hp bp hr br = true := okPQ_iff.2 ⟨o1, o4, by omega⟩
  have hHc := hom_comp o1 o2 o3 hHa hHb
  have h3 : homE hp bp hr br oc = 0 := by
    rw [homE, if_pos okc, if_pos]
    rw [HomA, if_pos okc] at hFc
    cases oc with
    | none => exact absurd hHc (hFc _)
    | some x => rfl
  have la := hHa.len
  have lb := hHb.len
  have sa : SlI w128 a xa := hVa.1.grow (g88.trans g128)
  have sb : SlI w128 b xb := hVb.1.grow g128
  refine cF (by rw [h3]; rfl) (sa.ln (cF (by rw [la]; rfl) (sb.ln (cF (by rw [lb]; rfl) ⟨by omega, fun w153 hw153 => sa.ln ?_⟩))))
  have g153 := alloc_grow hw153
  have s153 := alloc_size hw153
  obtain ⟨G, hG⟩ : ∃ G, G = w128.heap.size := ⟨_, rfl⟩
  have hlit := Own.lit (B := w128.heap.size) (n := 8) (sz := 1) hw153 (Nat.le_refl _) (by omega) (by kernel_rfl)
  rw [show (madeCells #[Value.int .i64 0] (Int.toNat 8 * 1)).toList = (List.replicate 8 (0 : Int)).map VC.encI by kernel_rfl] at hlit
  rw [← hG] at hlit ⊢
  have how0 : OwnH w153 G (List.replicate 8 0) := hlit
  refine ⟨fun t w' => ∃ (k : Nat) (c : List Int), t = k ∧ k ≤ 8 ∧ c.length = 8 ∧ (∀ i, i < k → c.getD i 0 = thn xb (xa.getD i 0)) ∧ OwnH w' G c ∧ Fr (fun k => k = G) w153 w', fun t _ => 8 - t.toNat, ⟨0, _, rfl, by omega, by simp, fun i hi => by omega, how0, Fr.refl _ _⟩, ?_⟩
  rintro - t w161 ⟨k, c, rfl, hk, hc8, hval, how, hf⟩
  have gw : ∀ {w'}, Fr (fun k => k = G) w153 w' → Grow w128 w' := fun hf => g153.fr hf fun i hi e => by omega
  refine condD (fun hlt => ?_) fun hge m => ?_
  · have hkl : k < xa.length := by omega
    have hga : xa.getD k 0 = xa[k] := by simp [List.getD, hkl]
    have hk8 : k < 8 := by omega
    have aX : Addr.add ⟨G, 0, none⟩ (Int.toNat (k : Int) * 1) = ⟨G, k, none⟩ := by rw [Int.toNat_natCast, Nat.mul_one, Addr.add0]
    have how8 : ∀ {w'} {c : List Int}, c.length = 8 → OwnH w' G c → Own w' G 3 1 (.slice (some ⟨G, 0, none⟩) 8 8) 8 (c.map VC.encI) := fun {w' c} hl h => by
      have h9 : Own _ G 3 1 (.slice (some ⟨G, 0, none⟩) 8 8) c.length (c.map VC.encI) := h
      rwa [hl] at h9
    have set8 : ∀ {w2 w3 : World} {c : List Int} {z : Int}, c.length = 8 → OwnH w2 G c → w3 = w2.setCell ⟨G, k, none⟩ (.int .i64 z) → OwnH w3 G (c.set k z) := fun {w2 w3 c z} hl h hw3 => by
      have h9 := Own.set (how8 hl h) hk8 hw3
      have e : (c.map VC.encI).set k (Value.int .i64 z) = (c.set k z).map VC.encI := by
        rw [show Value.int .i64 z = VC.encI z from rfl, ← List.map_set]
      rw [e] at h9
      show Own w3 G 3 1 (.slice (some ⟨G, 0, none⟩) 8 8) (c.set k z).length ((c.set k z).map VC.encI)
      rw [show (c.set k z).length = 8 by simpa using hl]
      exact h9
    have next : ∀ {w' : World} {c' : List Int}, c'.length = 8 → (∀ i, i ≠ k → c'.getD i 0 = c.getD i 0) → c'.getD k 0 = thn xb (xa.getD k 0) → OwnH w' G c' → Fr (fun k => k = G) w153 w' → inR ((k : Int) + 1) ∧ ((∃ (k' : Nat) (c : List Int), (k : Int) + 1 = k' ∧ k' ≤ 8 ∧ c.length = 8 ∧ (∀ i, i < k' → c.getD i 0 = thn xb (xa.getD i 0)) ∧ OwnH w' G c ∧ Fr (fun k => k = G) w153 w') ∧ 8 - Int.toNat ((k : Int) + 1) < 8 - Int.toNat (k : Int)) := fun {w' c'} hl hne he ho hf => ⟨by unfold inR; omega, ⟨k + 1, c', by omega, by omega, hl, (fun i hi => by
      by_cases e : i = k
      · rw [e]; exact he
      · rw [hne i e]; exact hval i (by omega)), ho, hf⟩, by omega⟩
    refine (sa.grow (gw hf)).rd rfl hkl ⟨_, _, _, rfl, ⟨by omega, by show (k : Int) < 8; omega⟩, ?_⟩
    rw [aX]
    refine ⟨(Own.wr (how8 hc8 how) hk8).1, (Own.wr (how8 hc8 how) hk8).2, fun w169 hw169 => ?_⟩
    have ho169 := set8 hc8 how hw169
    have hl169 : (c.set k xa[k]).length = 8 := by simpa using hc8
    have hf169 := hf.trans (set_fr hw169)
    have gs : ∀ (l : List Int) (z : Int), l.length = 8 → ∀ i, (l.set k z).getD i 0 = if i = k then z else l.getD i 0 := fun l z hl i => getD_set l (by omega) z
    refine condD (fun h0 => condD (fun h8 => ?_) fun h8 => ?_) fun h0 => ?_
    · have hxl : (xa[k]).toNat < xb.length := by omega
      refine (sb.grow (gw hf169)).rd (i := (xa[k]).toNat) (by omega) hxl ⟨_, _, _, rfl, ⟨by omega, by show (k : Int) < 8; omega⟩, ?_⟩
      rw [aX]
      refine ⟨(Own.wr (how8 hl169 ho169) hk8).1, (Own.wr (how8 hl169 ho169) hk8).2, fun w177 hw177 => ?_⟩
      refine next (by simpa using hl169) (fun i hi => ?_) ?_ (set8 hl169 ho169 hw177) (hf169.trans (set_fr hw177))
      · rw [gs _ _ hl169, if_neg hi, gs _ _ hc8, if_neg hi]
      · rw [gs _ _ hl169, if_pos rfl, hga, thn, if_pos ⟨h0, h8⟩]
        simp [List.getD, hxl]
    · refine next hl169 (fun i hi => ?_) ?_ ho169 hf169
      · rw [gs _ _ hc8, if_neg hi]
      · rw [gs _ _ hc8, if_pos rfl, hga, thn, if_neg fun h => h8 h.2]
    · refine next hl169 (fun i hi => ?_) ?_ ho169 hf169
      · rw [gs _ _ hc8, if_neg hi]
      · rw [gs _ _ hc8, if_pos rfl, hga, thn, if_neg fun h => h0 h.1]
  · have hk8 : k = 8 := by omega
    subst hk8
    have ec : c = xa.map (thn xb) := vals_ext hc8 (by simpa using la) fun i hi => by
      rw [hval i hi, getD_map8 (by omega)]
    have g0161 := g0128.trans (gw hf)
    have g5161 := g5128.trans (gw hf)
    have sc : SlI w161 (.slice (some ⟨G, 0, none⟩) 8 8) (xa.map (thn xb)) := by
      rw [← ec]
      exact Own.slI how
    refine ofPQ (shp.grow g0161) (sbp.gr g0161) (shr.grow g0161) (sbr.gr g0161) (fun g => pp (g5161.trans g)) (fun g => rr (g5161.trans g)) (fun hA bA hB bB E sA tA sB tB gE => ?_) m
    refine (chk_tr sA tA sB tB (sc.grow gE)).mono ?_
    rintro e E' ⟨b, rfl, hb, g'⟩
    have hbt : b = true := hb.2 ⟨okc, hHc⟩
    refine ⟨_, _, rfl, cT hbt (cT (by rw [if_pos okc]; rfl) (aw ((g5161.trans gE).trans g')))⟩
end Go.Proofs.Ytjkphmbjdleppaa
