/- The statement MatchHoms, as a contract. No condition. -/
import Derived.Test.YtjkphmbjdleppaaNc
namespace Go.Proofs.Ytjkphmbjdleppaa
open Go Go.RowKit VC
set_option linter.unusedSimpArgs false
set_option linter.unusedVariables false

theorem tr4 {hp hq : List Int} {bp bq : List Atm} (h : okPQ hp bp hq bq = true) : hp.take 9 = hp ∧ trB bp = bp ∧ hq.take 9 = hq ∧ trB bq = bq := by
  obtain ⟨h1, h2, h3⟩ := okPQ_iff.1 h
  exact ⟨(trB_of h1).2, (trB_of h1).1, (trB_of h2).2, (trB_of h2).1⟩
theorem okPQ_tr {hp hq : List Int} {bp bq : List Atm} : okPQ (hp.take 9) (trB bp) (hq.take 9) (trB bq) = okPQ hp bp hq bq := by
  rw [Bool.eq_iff_iff]
  constructor
  · intro h
    obtain ⟨h1, h2, h3⟩ := okPQ_iff.1 h
    rw [okQ_tr] at h1 h2
    rw [(trB_of h1).2, (trB_of h2).2] at h3
    exact okPQ_iff.2 ⟨h1, h2, h3⟩
  · intro h
    obtain ⟨e1, e2, e3, e4⟩ := tr4 h
    rw [e1, e2, e3, e4]
    exact h
theorem homA_tr {hp hq : List Int} {bp bq : List Atm} {o : Option (List Int)} : HomA (hp.take 9) (trB bp) (hq.take 9) (trB bq) o ↔ HomA hp bp hq bq o := by
  unfold HomA
  rw [okPQ_tr]
  by_cases h : okPQ hp bp hq bq = true
  · obtain ⟨e1, e2, e3, e4⟩ := tr4 h
    rw [e1, e2, e3, e4]
  · rw [if_neg h, if_neg h]
theorem homE_tr {hp hq : List Int} {bp bq : List Atm} {o : Option (List Int)} : homE (hp.take 9) (trB bp) (hq.take 9) (trB bq) o = homE hp bp hq bq o := by
  unfold homE
  rw [okPQ_tr]
theorem matchHoms_c {w : World} {hpv bpv hqv bqv lv : Value} {hp hq l : List Int} {bp bq : List Atm} (shp : SlI w hpv hp) (sbp : SlA w bpv bp) (shq : SlI w hqv hq) (sbq : SlA w bqv bq) (sl : SlI w lv l) : Calls Try.prog 8 #[.agg #[hpv, bpv], .agg #[hqv, bqv], lv] w (Ret w (.bool true)) := by
  refine f8_calls _ _ _ ?_
  refine ⟨_, rfl, fun w1 hw1 => ⟨_, rfl, fun w3 hw3 m0 => ?_⟩⟩
  have g1 := alloc_grow hw1
  have g3 := alloc_grow hw3
  have g03 := g1.trans g3
  have pp : ∀ {E}, Grow w3 E → ∀ (t : Nat) (v : Value), [hpv, bpv][t]? = some v → E.cell? (Addr.add ⟨w.heap.size, 0, none⟩ t) = some v := fun g => two ((g3.trans g).cell (boxc hw1 0 hpv rfl)) ((g3.trans g).cell (boxc hw1 1 bpv rfl))
  have qq : ∀ {E}, Grow w3 E → ∀ (t : Nat) (v : Value), [hqv, bqv][t]? = some v → E.cell? (Addr.add ⟨w1.heap.size, 0, none⟩ t) = some v := fun g => two (g.cell (boxc hw3 0 hqv rfl)) (g.cell (boxc hw3 1 bqv rfl))
  have ofP : ∀ {E : World} {Q : Ending → World → Prop}, Grow w3 E → (∀ hv bv E', SlI E' hv (hp.take 9) → SlA E' bv (trB bp) → Grow w3 E' → Grow E E' → Q (.returned (.agg #[hv, bv])) E') → Calls Try.prog 14 #[.agg #[hpv, bpv]] E Q := fun g hQ => (ofS_c (shp.grow (g03.trans g)) (sbp.gr (g03.trans g))).mono (by
    rintro e E' ⟨a, b, rfl, s, t, g'⟩
    exact hQ a b E' s t (g.trans g') g')
  have ofQ : ∀ {E : World} {Q : Ending → World → Prop}, Grow w3 E → (∀ hv bv E', SlI E' hv (hq.take 9) → SlA E' bv (trB bq) → Grow w3 E' → Grow E E' → Q (.returned (.agg #[hv, bv])) E') → Calls Try.prog 14 #[.agg #[hqv, bqv]] E Q := fun g hQ => (ofS_c (shq.grow (g03.trans g)) (sbq.gr (g03.trans g))).mono (by
    rintro e E' ⟨a, b, rfl, s, t, g'⟩
    exact hQ a b E' s t (g.trans g') g')
  have homC : ∀ {E : World} {Q : Ending → World → Prop} {hv bv hv' bv' : Value}, Grow w3 E → SlI E hv (hp.take 9) → SlA E bv (trB bp) → SlI E hv' (hq.take 9) → SlA E bv' (trB bq) → (∀ v o E', HomA hp bp hq bq o → HomV E' v o → Grow w3 E' → Grow E E' → Q (.returned (.tuple #[v, .int .i64 (homE hp bp hq bq o)])) E') → Calls Try.prog 35 #[.agg #[hv, bv], .agg #[hv', bv']] E Q := fun g s t s' t' hQ => (homProg_c s t s' t').mono (by
    rintro e E' ⟨v, o, rfl, hF, hV, g'⟩
    rw [homE_tr]
    exact hQ v o E' (homA_tr.1 hF) hV (g.trans g') g')
  have refC : ∀ {E : World} {Q : Ending → World → Prop}, Grow w3 E → (∀ v o E', HomA hp bp hq bq o → HomV E' v o → Grow w3 E' → Grow E E' → Q (.returned (.tuple #[v, .int .i64 (homE hp bp hq bq o)])) E') → Calls Try.prog 36 #[.agg #[hpv, bpv], .agg #[hqv, bqv]] E Q := fun g hQ => (refHom_c (shp.grow (g03.trans g)) (sbp.gr (g03.trans g)) (shq.grow (g03.trans g)) (sbq.gr (g03.trans g))).mono (by
    rintro e E' ⟨v, o, rfl, hF, hV, g'⟩
    exact hQ v o E' hF hV (g.trans g') g')
  have chk : ∀ {E : World} {Q : Ending → World → Prop} {hv bv hv' bv' : Value}, Grow w3 E → SlI E hv (hp.take 9) → SlA E bv (trB bp) → SlI E hv' (hq.take 9) → SlA E bv' (trB bq) → (∀ (b : Bool) E', (b = true ↔ okPQ hp bp hq bq = true ∧ IsHom hp bp hq bq l) → Grow w3 E' → Grow E E' → Q (.returned (.tuple #[.bool b, .int .i64 (if okPQ hp bp hq bq = true then 0 else 2)])) E') → Calls Try.prog 37 #[.agg #[hv, bv], .agg #[hv', bv'], lv] E Q := fun g s t s' t' hQ => (checkHom_c s t s' t' (sl.grow (g03.trans g))).mono (by
    rintro e E' ⟨b, rfl, hb, g'⟩
    rw [okPQ_tr] at hb ⊢
    refine hQ b E' (hb.trans ?_) (g.trans g') g'
    constructor
    · rintro ⟨ok, h⟩
      obtain ⟨e1, e2, e3, e4⟩ := tr4 ok
      rw [e1, e2, e3, e4] at h
      exact ⟨ok, h⟩
    · rintro ⟨ok, h⟩
      obtain ⟨e1, e2, e3, e4⟩ := tr4 ok
      rw [e1, e2, e3, e4]
      exact ⟨ok, h⟩)
  have gm0 : Grow w3 (dr w3 m0) := (Grow.refl w3).dr m0
  have tail : ∀ {E1 E2 E3 : World} {v v2 : Value} {o o2 : Option (List Int)} {b : Bool}, HomA hp bp hq bq o → HomA hp bp hq bq o2 → HomV E1 v o → HomV E2 v2 o2 → Grow E1 E3 → Grow E2 E3 → (b = true ↔ okPQ hp bp hq bq = true ∧ IsHom hp bp hq bq l) → Grow w3 E3 →
      Calls Try.prog 26 #[v, v2] E3 fun e E4 => ∃ t : Bool, e = .returned (.bool t) ∧ condP (!t) (Ret w (.bool true) (.returned (.bool false)) E4) (condP (!decide (homE hp bp hq bq o = (homE hp bp hq bq o2 : Int))) (Ret w (.bool true) (.returned (.bool false)) E4) (Calls Try.prog 20 #[] E4 fun e E5 => ∃ t2 : Bool, e = .returned (.bool t2) ∧ condP (!t2) (Ret w (.bool true) (.returned (.bool false)) E5)
        (condP (decide (homE hp bp hq bq o2 = (2 : Int))) (condP (!b) (Ret w (.bool true) (.returned (.bool (decide ((if okPQ hp bp hq bq = true then 0 else 2 : Int) = (2 : Int))))) E5) (Ret w (.bool true) (.returned (.bool false)) E5)) (∃ cs1 : List Value, cs1.length = 2 ∧ (∀ j v, cs1[j]? = some v → E5.cell? (Addr.add ⟨w.heap.size, 0, none⟩ j) = some v) ∧ ∃ cs2 : List Value, cs2.length = 2 ∧ (∀ j v, cs2[j]? = some v → E5.cell? (Addr.add ⟨w1.heap.size, 0, none⟩ j) = some v) ∧
          Calls Try.prog 38 #[(Value.agg cs1.toArray), (Value.agg cs2.toArray), lv] E5 fun e E6 => ∃ t3 : Bool, e = .returned (.bool t3) ∧ condP (b == t3) (Ret w (.bool true) (.returned (.bool (decide ((if okPQ hp bp hq bq = true then 0 else 2 : Int) = (0 : Int))))) E6) (Ret w (.bool true) (.returned (.bool false)) E6))))) := by
    intro E1 E2 E3 v v2 o o2 b hF hF2 hV hV2 g13 g23 hb gE3
    obtain rfl := HomA.uniq hF hF2
    refine (equal_c (HomV.sl (hV.gr g13)) (HomV.sl (hV2.gr g23))).mono ?_
    rintro e E4 ⟨rfl, g4⟩
    refine ⟨_, rfl, cF (by simp) (cF (by simp) (awake_c.mono ?_))⟩
    rintro e E5 ⟨rfl, g5⟩
    have g35 := gE3.trans (g4.trans g5)
    have gw5 := g03.trans g35
    refine ⟨_, rfl, cF rfl ?_⟩
    by_cases ok : okPQ hp bp hq bq = true
    · have hne : ¬ homE hp bp hq bq o = 2 := by
        rw [homE, if_pos ok]
        split <;> omega
      obtain ⟨o1, o2, o3⟩ := okPQ_iff.1 ok
      refine cF (decide_eq_false hne) ⟨[_, _], rfl, pp g35, [_, _], rfl, qq g35, (refIsHom_c (shp.grow gw5) (sbp.gr gw5) (shq.grow gw5) (sbq.gr gw5) (sl.grow gw5) o1 o2 o3).mono ?_⟩
      rintro e E6 ⟨b2, rfl, hb2, g6⟩
      have : b = b2 := by
        rw [Bool.eq_iff_iff, hb, hb2]
        exact ⟨fun h => h.2, fun h => ⟨ok, h⟩⟩
      refine ⟨_, rfl, cT (by rw [this]; simp) ⟨?_, gw5.trans g6⟩⟩
      rw [if_pos ok]
      rfl
    · have he : homE hp bp hq bq o = 2 := by rw [homE, if_neg ok]
      have hbf : b = false := by
        rw [← Bool.not_eq_true, hb]
        exact fun h => ok h.1
      refine cT (decide_eq_true he) (cT (by rw [hbf]; rfl) ⟨?_, gw5⟩)
      rw [if_neg ok]
      rfl
  refine And.intro ?_ ?_
  · refine ⟨[_, _], rfl, pp gm0, ?_⟩
    refine And.intro ?_ ?_
    · skip
      refine ofP gm0 ?_
      intro hA bA EA sA tA gA gA'
      refine ⟨_, rfl, ?_⟩
      refine ⟨[_, _], rfl, qq gA, ?_⟩
      refine ofQ gA ?_
      intro hB bB EB sB tB gB gB'
      refine ⟨_, rfl, ?_⟩
      refine homC gB (sA.grow gB') (tA.gr gB') sB tB ?_
      intro v o E1 hF hV gE1 gE1'
      refine ⟨_, _, rfl, ?_⟩
      refine ⟨[_, _], rfl, pp gE1, ?_⟩
      refine ⟨[_, _], rfl, qq gE1, ?_⟩
      refine refC gE1 ?_
      intro v2 o2 E2 hF2 hV2 gE2 gE2' 
      refine ⟨_, _, rfl, ?_⟩
      intro m
      have gm' : Grow E2 (dr E2 m) := (Grow.refl E2).dr m
      have gm := gE2.trans gm'
      refine And.intro ?_ ?_
      · refine ⟨[_, _], rfl, pp gm, ?_⟩
        refine And.intro ?_ ?_
        · skip
          refine ofP gm ?_
          intro hA bA EA sA tA gA gA'
          refine ⟨_, rfl, ?_⟩
          refine ⟨[_, _], rfl, qq gA, ?_⟩
          refine ofQ gA ?_
          intro hB bB EB sB tB gB gB'
          refine ⟨_, rfl, ?_⟩
          refine chk gB (sA.grow gB') (tA.gr gB') sB tB ?_
          intro b E3 hb gE3 gE3'
          refine ⟨_, _, rfl, ?_⟩
          exact tail hF hF2 hV hV2 (gE2'.trans (((gm'.trans gA').trans gB').trans gE3')) (((gm'.trans gA').trans gB').trans gE3') hb gE3
        · skip
          refine ⟨[_, _], rfl, qq gm, ?_⟩
          refine ofP gm ?_
          intro hA bA EA sA tA gA gA'
          refine ⟨_, rfl, ?_⟩
          refine ofQ gA ?_
          intro hB bB EB sB tB gB gB'
          refine ⟨_, rfl, ?_⟩
          refine chk gB (sA.grow gB') (tA.gr gB') sB tB ?_
          intro b E3 hb gE3 gE3'
          refine ⟨_, _, rfl, ?_⟩
          exact tail hF hF2 hV hV2 (gE2'.trans (((gm'.trans gA').trans gB').trans gE3')) (((gm'.trans gA').trans gB').trans gE3') hb gE3
      · skip
        refine ⟨[_, _], rfl, qq gm, ?_⟩
        refine ⟨[_, _], rfl, pp gm, ?_⟩
        refine ofP gm ?_
        intro hA bA EA sA tA gA gA'
        refine ⟨_, rfl, ?_⟩
        refine ofQ gA ?_
        intro hB bB EB sB tB gB gB'
        refine ⟨_, rfl, ?_⟩
        refine chk gB (sA.grow gB') (tA.gr gB') sB tB ?_
        intro b E3 hb gE3 gE3'
        refine ⟨_, _, rfl, ?_⟩
        exact tail hF hF2 hV hV2 (gE2'.trans (((gm'.trans gA').trans gB').trans gE3')) (((gm'.trans gA').trans gB').trans gE3') hb gE3
    · skip
      refine ⟨[_, _], rfl, qq gm0, ?_⟩
      refine ofP gm0 ?_
      intro hA bA EA sA tA gA gA'
      refine ⟨_, rfl, ?_⟩
      refine ofQ gA ?_
      intro hB bB EB sB tB gB gB'
      refine ⟨_, rfl, ?_⟩
      refine homC gB (sA.grow gB') (tA.gr gB') sB tB ?_
      intro v o E1 hF hV gE1 gE1'
      refine ⟨_, _, rfl, ?_⟩
      refine ⟨[_, _], rfl, pp gE1, ?_⟩
      refine ⟨[_, _], rfl, qq gE1, ?_⟩
      refine refC gE1 ?_
      intro v2 o2 E2 hF2 hV2 gE2 gE2' 
      refine ⟨_, _, rfl, ?_⟩
      intro m
      have gm' : Grow E2 (dr E2 m) := (Grow.refl E2).dr m
      have gm := gE2.trans gm'
      refine And.intro ?_ ?_
      · refine ⟨[_, _], rfl, pp gm, ?_⟩
        refine And.intro ?_ ?_
        · skip
          refine ofP gm ?_
          intro hA bA EA sA tA gA gA'
          refine ⟨_, rfl, ?_⟩
          refine ⟨[_, _], rfl, qq gA, ?_⟩
          refine ofQ gA ?_
          intro hB bB EB sB tB gB gB'
          refine ⟨_, rfl, ?_⟩
          refine chk gB (sA.grow gB') (tA.gr gB') sB tB ?_
          intro b E3 hb gE3 gE3'
          refine ⟨_, _, rfl, ?_⟩
          exact tail hF hF2 hV hV2 (gE2'.trans (((gm'.trans gA').trans gB').trans gE3')) (((gm'.trans gA').trans gB').trans gE3') hb gE3
        · skip
          refine ⟨[_, _], rfl, qq gm, ?_⟩
          refine ofP gm ?_
          intro hA bA EA sA tA gA gA'
          refine ⟨_, rfl, ?_⟩
          refine ofQ gA ?_
          intro hB bB EB sB tB gB gB'
          refine ⟨_, rfl, ?_⟩
          refine chk gB (sA.grow gB') (tA.gr gB') sB tB ?_
          intro b E3 hb gE3 gE3'
          refine ⟨_, _, rfl, ?_⟩
          exact tail hF hF2 hV hV2 (gE2'.trans (((gm'.trans gA').trans gB').trans gE3')) (((gm'.trans gA').trans gB').trans gE3') hb gE3
      · skip
        refine ⟨[_, _], rfl, qq gm, ?_⟩
        refine ⟨[_, _], rfl, pp gm, ?_⟩
        refine ofP gm ?_
        intro hA bA EA sA tA gA gA'
        refine ⟨_, rfl, ?_⟩
        refine ofQ gA ?_
        intro hB bB EB sB tB gB gB'
        refine ⟨_, rfl, ?_⟩
        refine chk gB (sA.grow gB') (tA.gr gB') sB tB ?_
        intro b E3 hb gE3 gE3'
        refine ⟨_, _, rfl, ?_⟩
        exact tail hF hF2 hV hV2 (gE2'.trans (((gm'.trans gA').trans gB').trans gE3')) (((gm'.trans gA').trans gB').trans gE3') hb gE3
  · skip
    refine ⟨[_, _], rfl, qq gm0, ?_⟩
    refine ⟨[_, _], rfl, pp gm0, ?_⟩
    refine ofP gm0 ?_
    intro hA bA EA sA tA gA gA'
    refine ⟨_, rfl, ?_⟩
    refine ofQ gA ?_
    intro hB bB EB sB tB gB gB'
    refine ⟨_, rfl, ?_⟩
    refine homC gB (sA.grow gB') (tA.gr gB') sB tB ?_
    intro v o E1 hF hV gE1 gE1'
    refine ⟨_, _, rfl, ?_⟩
    refine ⟨[_, _], rfl, pp gE1, ?_⟩
    refine ⟨[_, _], rfl, qq gE1, ?_⟩
    refine refC gE1 ?_
    intro v2 o2 E2 hF2 hV2 gE2 gE2' 
    refine ⟨_, _, rfl, ?_⟩
    intro m
    have gm' : Grow E2 (dr E2 m) := (Grow.refl E2).dr m
    have gm := gE2.trans gm'
    refine And.intro ?_ ?_
    · refine ⟨[_, _], rfl, pp gm, ?_⟩
      refine And.intro ?_ ?_
      · skip
        refine ofP gm ?_
        intro hA bA EA sA tA gA gA'
        refine ⟨_, rfl, ?_⟩
        refine ⟨[_, _], rfl, qq gA, ?_⟩
        refine ofQ gA ?_
        intro hB bB EB sB tB gB gB'
        refine ⟨_, rfl, ?_⟩
        refine chk gB (sA.grow gB') (tA.gr gB') sB tB ?_
        intro b E3 hb gE3 gE3'
        refine ⟨_, _, rfl, ?_⟩
        exact tail hF hF2 hV hV2 (gE2'.trans (((gm'.trans gA').trans gB').trans gE3')) (((gm'.trans gA').trans gB').trans gE3') hb gE3
      · skip
        refine ⟨[_, _], rfl, qq gm, ?_⟩
        refine ofP gm ?_
        intro hA bA EA sA tA gA gA'
        refine ⟨_, rfl, ?_⟩
        refine ofQ gA ?_
        intro hB bB EB sB tB gB gB'
        refine ⟨_, rfl, ?_⟩
        refine chk gB (sA.grow gB') (tA.gr gB') sB tB ?_
        intro b E3 hb gE3 gE3'
        refine ⟨_, _, rfl, ?_⟩
        exact tail hF hF2 hV hV2 (gE2'.trans (((gm'.trans gA').trans gB').trans gE3')) (((gm'.trans gA').trans gB').trans gE3') hb gE3
    · skip
      refine ⟨[_, _], rfl, qq gm, ?_⟩
      refine ⟨[_, _], rfl, pp gm, ?_⟩
      refine ofP gm ?_
      intro hA bA EA sA tA gA gA'
      refine ⟨_, rfl, ?_⟩
      refine ofQ gA ?_
      intro hB bB EB sB tB gB gB'
      refine ⟨_, rfl, ?_⟩
      refine chk gB (sA.grow gB') (tA.gr gB') sB tB ?_
      intro b E3 hb gE3 gE3'
      refine ⟨_, _, rfl, ?_⟩
      exact tail hF hF2 hV hV2 (gE2'.trans (((gm'.trans gA').trans gB').trans gE3')) (((gm'.trans gA').trans gB').trans gE3') hb gE3
end Go.Proofs.Ytjkphmbjdleppaa
