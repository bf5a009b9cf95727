/- The statement MatchMaps, as a contract. No condition. -/
import Derived.Test.YtjkphmbjdleppaaNd
import Derived.Test.YtjkphmbjdleppaaMs
namespace Go.Proofs.Ytjkphmbjdleppaa
open Go Go.RowKit VC
set_option linter.unusedSimpArgs false
set_option linter.unusedVariables false

theorem mapsEq_c {w : World} {z t : Value} {a : Addr} {ys xs : List Int} (hz : SlI w z ys) (hc : w.cell? a = some t) (ht : SlI w t xs) : Calls Try.prog 40 #[z, .pointer (some a)] w (Ret w (.bool (decide (xs = ys)))) := by
  refine f40_calls _ _ ?_
  refine ⟨t, hc, (equal_c ht hz).mono ?_⟩
  rintro e w' ⟨rfl, g⟩
  exact ⟨_, rfl, rfl, g⟩
theorem matchMaps_c {w : World} {hpv bpv hqv bqv hv lv : Value} {hp hq h : List Int} {bp bq l : List Atm} (shp : SlI w hpv hp) (sbp : SlA w bpv bp) (shq : SlI w hqv hq) (sbq : SlA w bqv bq) (sh : SlI w hv h) (sl : SlA w lv l) : Calls Try.prog 9 #[.agg #[hpv, bpv], .agg #[hqv, bqv], hv, lv] w (Ret w (.bool true)) := by
  refine f9_calls _ _ _ _ ?_
  refine ⟨_, rfl, fun w1 hw1 => ⟨_, rfl, fun w3 hw3 => ?_⟩⟩
  have g1 := alloc_grow hw1
  have g3 := alloc_grow hw3
  have g03 := g1.trans g3
  have pp : ∀ {E}, Grow w3 E → ∀ (t : Nat) (v : Value), [hpv, bpv][t]? = some v → E.cell? (Addr.add ⟨w.heap.size, 0, none⟩ t) = some v := fun g => two ((g3.trans g).cell (boxc hw1 0 hpv rfl)) ((g3.trans g).cell (boxc hw1 1 bpv rfl))
  have qq : ∀ {E}, Grow w3 E → ∀ (t : Nat) (v : Value), [hqv, bqv][t]? = some v → E.cell? (Addr.add ⟨w1.heap.size, 0, none⟩ t) = some v := fun g => two (g.cell (boxc hw3 0 hqv rfl)) (g.cell (boxc hw3 1 bqv rfl))
  have aw : ∀ {E : World}, Grow w3 E → Calls Try.prog 20 #[] E fun e w' => ∃ t : Bool, e = .returned (.bool t) ∧ Ret w (.bool true) (.returned (.bool t)) w' := fun g => awake_c.mono (by
    rintro e w' ⟨rfl, g'⟩
    exact ⟨_, rfl, rfl, (g03.trans g).trans g'⟩)
  refine ⟨fun ok e w' => e = (if okPQ hp bp hq bq = true then 0 else 2) ∧ (ok = true ↔ okPQ hp bp hq bq = true ∧ IsHom hp bp hq bq h) ∧ Grow w3 w', fun m => ?_, ?_⟩
  · refine ofPQ (shp.grow g03) (sbp.gr g03) (shq.grow g03) (sbq.gr g03) pp qq (fun hA bA hB bB E sA tA sB tB gE => ?_) m
    refine (chk_tr sA tA sB tB (sh.grow (g03.trans gE))).mono ?_
    rintro e E' ⟨b, rfl, hb, g'⟩
    exact ⟨_, _, rfl, rfl, hb, gE.trans g'⟩
  rintro - ok e w45 ⟨rfl, hok, g45⟩
  refine ⟨fun first f w' => ∃ o, f = homE hp bp hq bq o ∧ HomA hp bp hq bq o ∧ HomV w' first o ∧ Grow w3 w', fun m => ?_, ?_⟩
  · have g045 := g03.trans g45
    refine ofPQ (shp.grow g045) (sbp.gr g045) (shq.grow g045) (sbq.gr g045) (fun g => pp (g45.trans g)) (fun g => qq (g45.trans g)) (fun hA bA hB bB E sA tA sB tB gE => ?_) m
    refine (hom_tr sA tA sB tB).mono ?_
    rintro e E' ⟨v, o, rfl, hF, hV, g'⟩
    exact ⟨_, _, rfl, o, rfl, hF, hV, (g45.trans gE).trans g'⟩
  rintro - first f w86 ⟨o, rfl, hF, hV, g86⟩
  have g086 := g03.trans g86
  by_cases okc : okPQ hp bp hq bq = true
  · rw [if_pos okc]
    rw [HomA, if_pos okc] at hF
    obtain ⟨o1, o2, o3⟩ := okPQ_iff.1 okc
    refine cF rfl ⟨fun w' => Grow w86 w', ?_, ?_⟩
    · refine condD (fun h0 => ?_) fun _ => Grow.refl w86
      intro m
      refine ofPQ (shp.grow g086) (sbp.gr g086) (shq.grow g086) (sbq.gr g086) (fun g => pp (g86.trans g)) (fun g => qq (g86.trans g)) (fun hA bA hB bB E sA tA sB tB gE => ?_) m
      cases o with
      | none =>
        rw [homE, if_pos okc] at h0
        cases h0
      | some x =>
        refine (chk_tr sA tA sB tB (hV.1.grow gE)).mono ?_
        rintro e E' ⟨b, rfl, hb, g'⟩
        have hbt : b = true := hb.2 ⟨okc, hF.1⟩
        refine ⟨_, _, rfl, cF (by rw [hbt]; rfl) (cF (by rw [if_pos okc]; rfl) (condP_i (fun ht => ?_) fun _ => gE.trans g'))⟩
        have gE' := gE.trans g'
        refine (compare_c (hV.1.grow gE') (sh.grow (g086.trans gE'))).mono ?_
        rintro e E2 ⟨rfl, rfl⟩
        have := hF.2 h (hok.1 ht).2
        exact ⟨_, rfl, cF (decide_eq_false (by omega)) gE'⟩
    rintro - w137 g137
    have g3137 := g86.trans g137
    have g0137 := g03.trans g3137
    refine condP_i (fun _ => aw g3137) fun ht => ?_
    have ht : ok = true := by simpa using ht
    have hH := (hok.1 ht).2
    refine ⟨[_, _], rfl, qq g3137, (ofS_c (shq.grow g0137) (sbq.gr g0137)).mono ?_⟩
    rintro e w142 ⟨hB, bB, rfl, sB, tB, g142⟩
    refine ⟨_, rfl, (factsS_c (sl.gr (g0137.trans g142))).mono ?_⟩
    rintro e w145 ⟨lB, rfl, slB, g145⟩
    refine ⟨_, rfl, (results_c (sB.grow g145) (tB.gr g145) slB).mono ?_⟩
    rintro e w148 ⟨va, rfl, sva, g148⟩
    have g3148 := ((g3137.trans g142).trans g145).trans g148
    have g0148 := g03.trans g3148
    refine ⟨_, _, rfl, [_, _], rfl, pp g3148, (ofS_c (shp.grow g0148) (sbp.gr g0148)).mono ?_⟩
    rintro e w153 ⟨hA, bA, rfl, sA, tA, g153⟩
    refine ⟨_, rfl, (factsS_c (sl.gr (g0148.trans g153))).mono ?_⟩
    rintro e w156 ⟨lA, rfl, slA, g156⟩
    refine ⟨_, rfl, (results_c (sA.grow g156) (tA.gr g156) slA).mono ?_⟩
    rintro e w159 ⟨vb, rfl, svb, g159⟩
    have g48_159 := (g153.trans g156).trans g159
    have g3159 := g3148.trans g48_159
    have g0159 := g03.trans g3159
    have hf0 : homE hp bp hq bq o = 0 := by
      cases o with
      | none => exact absurd hH (hF h)
      | some x => rw [homE, if_pos okc]; rfl
    obtain ⟨e1, e2, e3, e4⟩ := tr4 okc
    rw [e3, e4] at sva ⊢
    rw [e1, e2] at svb ⊢
    refine ⟨_, _, rfl, cF (by rw [hf0]; rfl) (condP_i (fun _ => cT (decide_eq_true hf0) (aw g3159)) fun h1 => condP_i (fun _ => cT (decide_eq_true hf0) (aw g3159)) fun h2 => ?_)⟩
    have h1 : (resO hq bq (trF l)).1 = 0 := by simpa using h1
    have h2 : (resO hp bp (trF l)).1 = 0 := by simpa using h2
    obtain ⟨q1, f1, r1⟩ := resO_ok h1
    obtain ⟨q2, f2, r2⟩ := resO_ok h2
    have hsl := SlX.len_le sva
    refine SlX.ln (sva.gr g48_159) ⟨fun t w' => ∃ k : Nat, t = k ∧ k ≤ (resO hq bq (trF l)).2.length ∧ Grow w159 w', fun t _ => (resO hq bq (trF l)).2.length - t.toNat, ⟨0, rfl, by omega, Grow.refl _⟩, ?_⟩
    rintro - t w179 ⟨k, rfl, hk, g179⟩
    refine condD (fun hlt => ?_) fun hge => aw (g3159.trans g179)
    have hkl : k < (resO hq bq (trF l)).2.length := by omega
    refine SlL.rd1 (sva.gr (g48_159.trans g179)) rfl hkl fun u hu w184 hw184 => ?_
    have g184 := alloc_grow hw184
    have hbox := Box.new hw184
    refine ⟨SlI.one hu, ⟨_, hbox.cell⟩, hbox.free, fun w185 hw185 => ?_⟩
    have g185 : Grow w179 w185 := g184.fr (set_fr hw185) fun i hi e => by
      have e : i = w179.heap.size := e
      omega
    have hbox2 := hbox.set hw185
    have hin : (resO hq bq (trF l)).2[k] ∈ (resO hp bp (trF l)).2 := by
      have h9 := List.getElem_mem hkl
      generalize (resO hq bq (trF l)).2[k] = y at h9 ⊢
      rw [r1] at h9
      rw [r2]
      exact hom_rows (okF_pos f1) o1 o2 o3 hH h9
    refine (containsL_c (p := fun z => decide ((resO hq bq (trF l)).2[k] = z)) (svb.gr (g179.trans g185)) ⟨_, #[], #[_], rfl, by kernel_rfl, fun x _ w' u g hu' => ?_⟩).mono ?_
    · rw [app1]
      exact mapsEq_c hu' (g.cell hbox2.cell) ((hu.grow g185).grow g)
    · rintro e w186 ⟨rfl, g186⟩
      have hany : (resO hp bp (trF l)).2.any (fun z => decide ((resO hq bq (trF l)).2[k] = z)) = true := List.any_eq_true.2 ⟨_, hin, by simp⟩
      refine ⟨_, rfl, cF (by rw [hany]; rfl) ⟨by unfold inR; omega, ⟨k + 1, by omega, by omega, (g179.trans g185).trans g186⟩, by dsimp only; omega⟩⟩
  · rw [if_neg okc]
    refine cT rfl (cT rfl (cT ?_ (aw g86)))
    rw [homE, if_neg okc]
    rfl
end Go.Proofs.Ytjkphmbjdleppaa
