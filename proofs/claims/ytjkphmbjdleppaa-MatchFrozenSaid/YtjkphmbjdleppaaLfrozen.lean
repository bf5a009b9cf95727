/- The statement MatchFrozen, as a contract. No condition. -/
import Derived.Test.YtjkphmbjdleppaaNf
import Derived.Test.YtjkphmbjdleppaaMs
namespace Go.Proofs.Ytjkphmbjdleppaa
open Go Go.RowKit VC
set_option linter.unusedSimpArgs false
set_option linter.unusedVariables false

theorem froz1_c {w : World} {z t : Value} {a : Addr} {ys xs : List Int} (hz : SlI w z ys) (hc : w.cell? a = some t) (ht : SlI w t xs) : Calls Try.prog 43 #[z, .pointer (some a)] w (Ret w (.bool (decide (xs = ys)))) := by
  refine f43_calls _ _ ?_
  refine ⟨t, hc, (equal_c ht hz).mono ?_⟩
  rintro e w' ⟨rfl, g⟩
  exact ⟨_, rfl, rfl, g⟩
theorem froz2_c {w : World} {z t : Value} {a : Addr} {ys xs : List Int} (hz : SlI w z ys) (hc : w.cell? a = some t) (ht : SlI w t xs) : Calls Try.prog 44 #[z, .pointer (some a)] w (Ret w (.bool (decide (xs = ys)))) := by
  refine f44_calls _ _ ?_
  refine ⟨t, hc, (equal_c ht hz).mono ?_⟩
  rintro e w' ⟨rfl, g⟩
  exact ⟨_, rfl, rfl, g⟩
/-- The program's Contained of two made queries. -/
theorem cont_tr {w : World} {hv bv hv' bv' : Value} {hp hq : List Int} {bp bq : List Atm} (s : SlI w hv (hp.take 9)) (t : SlA w bv (trB bp)) (s' : SlI w hv' (hq.take 9)) (t' : SlA w bv' (trB bq)) :
    Calls Try.prog 41 #[.agg #[hv, bv], .agg #[hv', bv']] w fun e w' => ∃ b : Bool, e = .returned (.tuple #[.bool b, .int .i64 (if okPQ hp bp hq bq = true then 0 else 2)]) ∧ (b = true ↔ okPQ hp bp hq bq = true ∧ ∃ h, IsHom hq bq hp bp h) ∧ Grow w w' := (containedProg_c s t s' t').mono (by
    rintro e E' ⟨b, rfl, hb, g'⟩
    rw [okPQ_tr] at hb ⊢
    refine ⟨b, rfl, hb.trans ?_, g'⟩
    constructor
    · rintro ⟨ok, h⟩
      obtain ⟨e1, e2, e3, e4⟩ := tr4 ok
      rw [e1, e2, e3, e4] at h
      exact ⟨ok, h⟩
    · rintro ⟨ok, h⟩
      obtain ⟨e1, e2, e3, e4⟩ := tr4 ok
      rw [e1, e2, e3, e4]
      exact ⟨ok, h⟩)
theorem any_eq {L : List (List Int)} {x : List Int} : L.any (fun z => decide (x = z)) = true ↔ x ∈ L := by
  rw [List.any_eq_true]
  constructor
  · rintro ⟨z, hz, e⟩
    have e : x = z := by simpa using e
    rw [e]; exact hz
  · intro h
    exact ⟨x, h, by simp⟩
theorem matchFrozen_c {w : World} {hpv bpv hqv bqv lv : Value} {hp hq : List Int} {bp bq l : List Atm} (shp : SlI w hpv hp) (sbp : SlA w bpv bp) (shq : SlI w hqv hq) (sbq : SlA w bqv bq) (sl : SlA w lv l) : Calls Try.prog 11 #[.agg #[hpv, bpv], .agg #[hqv, bqv], lv] w (Ret w (.bool true)) := by
  refine f11_calls _ _ _ ?_
  refine ⟨_, rfl, fun w1 hw1 => ⟨_, rfl, fun w3 hw3 => ?_⟩⟩
  have g1 := alloc_grow hw1
  have g3 := alloc_grow hw3
  have g03 := g1.trans g3
  have pp : ∀ {E}, Grow w3 E → ∀ (t : Nat) (v : Value), [hpv, bpv][t]? = some v → E.cell? (Addr.add ⟨w.heap.size, 0, none⟩ t) = some v := fun g => two ((g3.trans g).cell (boxc hw1 0 hpv rfl)) ((g3.trans g).cell (boxc hw1 1 bpv rfl))
  have qq : ∀ {E}, Grow w3 E → ∀ (t : Nat) (v : Value), [hqv, bqv][t]? = some v → E.cell? (Addr.add ⟨w1.heap.size, 0, none⟩ t) = some v := fun g => two (g.cell (boxc hw3 0 hqv rfl)) (g.cell (boxc hw3 1 bqv rfl))
  have aw : ∀ {E : World}, Grow w3 E → Calls Try.prog 20 #[] E fun e w' => ∃ t : Bool, e = .returned (.bool t) ∧ Ret w (.bool true) (.returned (.bool t)) w' := fun g => awake_c.mono (by
    rintro e w' ⟨rfl, g'⟩
    exact ⟨_, rfl, rfl, (g03.trans g).trans g'⟩)
  refine ⟨fun is e w' => e = (if okPQ hp bp hq bq = true then 0 else 2) ∧ (is = true ↔ okPQ hp bp hq bq = true ∧ ∃ h, IsHom hq bq hp bp h) ∧ Grow w3 w', fun m => ?_, ?_⟩
  · refine ofPQ (shp.grow g03) (sbp.gr g03) (shq.grow g03) (sbq.gr g03) pp qq (fun hA bA hB bB E sA tA sB tB gE => ?_) m
    refine (cont_tr sA tA sB tB).mono ?_
    rintro e E' ⟨b, rfl, hb, g'⟩
    exact ⟨_, _, rfl, rfl, hb, gE.trans g'⟩
  rintro - is e w45 ⟨rfl, his, g45⟩
  by_cases okc : okPQ hp bp hq bq = true
  case neg =>
    rw [if_neg okc]
    exact cT rfl (cT rfl (aw g45))
  rw [if_pos okc]
  obtain ⟨o1, o2, o3⟩ := okPQ_iff.1 okc
  have okc' : okPQ hq bq hp bp = true := okPQ_iff.2 ⟨o2, o1, o3.symm⟩
  obtain ⟨e1, e2, e3, e4⟩ := tr4 okc
  refine cF rfl ⟨fun f w' => ∃ o, f = homE hq bq hp bp o ∧ HomA hq bq hp bp o ∧ Grow w3 w', fun m => ?_, ?_⟩
  · have g045 := g03.trans g45
    refine ofPQ (shq.grow g045) (sbq.gr g045) (shp.grow g045) (sbp.gr g045) (fun g => qq (g45.trans g)) (fun g => pp (g45.trans g)) (fun hA bA hB bB E sA tA sB tB gE => ?_) m
    refine (hom_tr sA tA sB tB).mono ?_
    rintro e E' ⟨v, o, rfl, hF, hV, g'⟩
    exact ⟨_, _, rfl, o, rfl, hF, (g45.trans gE).trans g'⟩
  rintro - f w88 ⟨o, rfl, hF, g88⟩
  have g088 := g03.trans g88
  rw [HomA, if_pos okc'] at hF
  have hisO : is = o.isSome := by
    rw [Bool.eq_iff_iff, his]
    cases o with
    | none => exact ⟨fun h => absurd h.2.choose_spec (hF _), fun h => (by cases h)⟩
    | some x => exact ⟨fun _ => rfl, fun _ => ⟨okc, x, hF.1⟩⟩
  have hfO : homE hq bq hp bp o = if o.isSome = true then 0 else 5 := by rw [homE, if_pos okc']
  refine ⟨[_, _], rfl, pp g88, (ofS_c (shp.grow g088) (sbp.gr g088)).mono ?_⟩
  rintro e w90 ⟨hA, bA, rfl, sA, tA, g90⟩
  rw [e1] at sA
  rw [e2] at tA
  refine ⟨_, rfl, (freeze_c sA tA).mono ?_⟩
  rw [if_pos o1, if_pos o1, if_pos o1]
  rintro e w93 ⟨fv, rv, rfl, sf, sr, g93⟩
  refine ⟨_, _, _, rfl, fun w98 hw98 => ⟨sr.one, ⟨_, (Box.new hw98).cell⟩, (Box.new hw98).free, fun w99 hw99 => ?_⟩⟩
  have g98 := alloc_grow hw98
  have hbox := (Box.new hw98).set hw99
  have g99 : Grow w93 w99 := g98.fr (set_fr hw99) fun i hi e => by
    have e : i = w93.heap.size := e
    omega
  have g399 := ((g88.trans g90).trans g93).trans g99
  have g099 := g03.trans g399
  refine ⟨[_, _], rfl, qq g399, (ofS_c (shq.grow g099) (sbq.gr g099)).mono ?_⟩
  rintro e w101 ⟨hB, bB, rfl, sB, tB, g101⟩
  rw [e3] at sB
  rw [e4] at tB
  refine ⟨_, rfl, (results_c sB tB (sf.gr (g99.trans g101))).mono ?_⟩
  obtain ⟨fz1, fz2⟩ := frozen_ok o1 o2
  rw [fz1, fz2]
  rintro e w104 ⟨va, rfl, sva, g104⟩
  have g3104 := (g399.trans g101).trans g104
  have hsome : decide (homE hq bq hp bp o = (0 : Int)) = o.isSome := by
    rw [hfO]
    cases o.isSome <;> decide
  refine ⟨_, _, rfl, fun w' => Grow w104 w', ?_, ?_⟩
  · refine cF rfl (cF rfl (cF (by rw [hsome, hisO]; cases o.isSome <;> rfl) (condP_i (fun hn => cF ?_ (Grow.refl _)) fun _ => Grow.refl _)))
    rw [hfO] at hn ⊢
    cases ho : o.isSome with
    | true => rw [ho] at hn; simp at hn
    | false => simp
  rintro - w110 g110
  have g3110 := g3104.trans g110
  have g99_110 := (g101.trans g104).trans g110
  refine (containsL_c (p := fun z => decide (hp.map frz = z)) (sva.gr g110) ⟨_, #[], #[_], rfl, by kernel_rfl, fun x _ w' u g hu' => ?_⟩).mono ?_
  · rw [app1]
    exact froz1_c hu' ((g99_110.trans g).cell hbox.cell) (sr.grow ((g99.trans g99_110).trans g))
  rintro e w111 ⟨rfl, g111⟩
  have hcon : (rowsOf hq (allM (srtF (bp.map frzA)) bq)).any (fun z => decide (hp.map frz = z)) = is := by
    rw [Bool.eq_iff_iff, any_eq, his, frozen_iff o1 o2 o3]
    exact ⟨fun h => ⟨okc, h⟩, fun h => h.2⟩
  have g3111 := g3110.trans g111
  have g0111 := g03.trans g3111
  refine ⟨_, rfl, cF (by rw [hcon]; cases is <;> rfl) ⟨[_, _], rfl, pp g3111, (ofS_c (shp.grow g0111) (sbp.gr g0111)).mono ?_⟩⟩
  rintro e w115 ⟨hC, bC, rfl, sC, tC, g115⟩
  refine ⟨_, rfl, (factsS_c (sl.gr (g0111.trans g115))).mono ?_⟩
  rintro e w118 ⟨lB, rfl, slB, g118⟩
  refine ⟨_, rfl, (results_c (sC.grow g118) (tC.gr g118) slB).mono ?_⟩
  rintro e w121 ⟨vb, rfl, svb, g121⟩
  have g3121 := ((g3111.trans g115).trans g118).trans g121
  have g0121 := g03.trans g3121
  refine ⟨_, _, rfl, [_, _], rfl, qq g3121, (ofS_c (shq.grow g0121) (sbq.gr g0121)).mono ?_⟩
  rintro e w126 ⟨hD, bD, rfl, sD, tD, g126⟩
  refine ⟨_, rfl, (factsS_c (sl.gr (g0121.trans g126))).mono ?_⟩
  rintro e w129 ⟨lA, rfl, slA, g129⟩
  refine ⟨_, rfl, (results_c (sD.grow g129) (tD.gr g129) slA).mono ?_⟩
  rintro e w132 ⟨vc, rfl, svc, g132⟩
  have g21_132 := (g126.trans g129).trans g132
  have g3132 := g3121.trans g21_132
  rw [e1, e2] at svb ⊢
  rw [e3, e4] at svc ⊢
  refine ⟨_, _, rfl, condP_i (fun _ => aw g3132) fun hi => condP_i (fun _ => aw g3132) fun h1 => condP_i (fun _ => aw g3132) fun h2 => ?_⟩
  have hi : is = true := by simpa using hi
  obtain ⟨-, h, hH⟩ := his.1 hi
  have h1 : (resO hp bp (trF l)).1 = 0 := by simpa using h1
  have h2 : (resO hq bq (trF l)).1 = 0 := by simpa using h2
  obtain ⟨q1, f1, r1⟩ := resO_ok h1
  obtain ⟨q2, f2, r2⟩ := resO_ok h2
  have hsl := SlX.len_le svb
  refine SlX.ln (svb.gr g21_132) ⟨fun t w' => ∃ k : Nat, t = k ∧ k ≤ (resO hp bp (trF l)).2.length ∧ Grow w132 w', fun t _ => (resO hp bp (trF l)).2.length - t.toNat, ⟨0, rfl, by omega, Grow.refl _⟩, ?_⟩
  rintro - t w179 ⟨k, rfl, hk, g179⟩
  refine condD (fun hlt => ?_) fun hge => aw (g3132.trans g179)
  have hkl : k < (resO hp bp (trF l)).2.length := by omega
  refine SlL.rd1 (svb.gr (g21_132.trans g179)) rfl hkl fun u hu w184 hw184 => ?_
  have g184 := alloc_grow hw184
  have hbox3 := Box.new hw184
  refine ⟨SlI.one hu, ⟨_, hbox3.cell⟩, hbox3.free, fun w185 hw185 => ?_⟩
  have g185 : Grow w179 w185 := g184.fr (set_fr hw185) fun i hi e => by
    have e : i = w179.heap.size := e
    omega
  have hbox2 := hbox3.set hw185
  have hin : (resO hp bp (trF l)).2[k] ∈ (resO hq bq (trF l)).2 := by
    have h9 := List.getElem_mem hkl
    generalize (resO hp bp (trF l)).2[k] = y at h9 ⊢
    rw [r1] at h9
    rw [r2]
    exact hom_rows (okF_pos f1) o2 o1 o3.symm hH h9
  refine (containsL_c (p := fun z => decide ((resO hp bp (trF l)).2[k] = z)) (svc.gr (g179.trans g185)) ⟨_, #[], #[_], rfl, by kernel_rfl, fun x _ w' u g hu' => ?_⟩).mono ?_
  · rw [app1]
    exact froz2_c hu' (g.cell hbox2.cell) ((hu.grow g185).grow g)
  · rintro e w186 ⟨rfl, g186⟩
    refine ⟨_, rfl, cF (by rw [any_eq.2 hin]; rfl) ⟨by unfold inR; omega, ⟨k + 1, by omega, by omega, (g179.trans g185).trans g186⟩, by dsimp only; omega⟩⟩
end Go.Proofs.Ytjkphmbjdleppaa
