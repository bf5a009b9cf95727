/- The statement MatchProducts, as a contract. No condition. -/
import Derived.Test.YtjkphmbjdleppaaMr
import Derived.Test.YtjkphmbjdleppaaMt
namespace Go.Proofs.Ytjkphmbjdleppaa
open Go Go.RowKit VC
set_option linter.unusedSimpArgs false
set_option linter.unusedVariables false

theorem varsL_bit : ∀ {xs : List Int} {i : Nat}, (varsL xs).testBit i = true ↔ (i : Int) ∈ xs
  | [], i => by simp [varsL]
  | x :: r, i => by
    rw [varsL, Nat.testBit_or, Bool.or_eq_true, varsL_bit, List.mem_cons]
    refine or_congr_left ?_
    split
    · rename_i h
      rw [Nat.testBit_two_pow]
      simp; omega
    · simp; omega
theorem varsB_bit : ∀ {b : List Atm} {i : Nat}, (varsB b).testBit i = true ↔ (i : Int) ∈ b.flatMap Prod.snd
  | [], i => by simp [varsB]
  | a :: r, i => by rw [varsB, Nat.testBit_or, Bool.or_eq_true, varsB_bit, varsL_bit, List.flatMap_cons, List.mem_append]
theorem varsB_append (b c : List Atm) : varsB (b ++ c) = varsB b ||| varsB c := by
  induction b with
  | nil => simp [varsB]
  | cons a r ih => rw [List.cons_append, varsB, varsB, ih, Nat.or_assoc]
theorem okQ_app {h g : List Int} {b c : List Atm} (h1 : okQ h b = true) (h2 : okQ g c = true) (hl : (b ++ c).length ≤ 5) : okQ h (b ++ c) = true := by
  simp only [okQ, Bool.and_eq_true, decide_eq_true_eq, List.all_eq_true] at *
  refine ⟨⟨⟨⟨by simp; omega, hl⟩, h1.1.1.2⟩, fun a ha => (List.mem_append.1 ha).elim (h1.1.2 a) (h2.1.2 a)⟩, fun x hx => ?_⟩
  have := h1.2 x hx
  simp only [okH, Bool.and_eq_true, decide_eq_true_eq] at this ⊢
  exact ⟨this.1, by rw [varsB_append, Nat.testBit_or, this.2]; rfl⟩
theorem askO_ok {h : List Int} {b l : List Atm} (h0 : (askO h b l).1 = 0) : okQ h b = true ∧ okFs l = true ∧ runF l b = some (askO h b l).2 := by
  unfold askO at h0 ⊢
  split at h0
  · rename_i hq
    rw [Bool.and_eq_true] at hq
    refine ⟨hq.1, hq.2, ?_⟩
    rw [if_pos (by rw [hq.1, hq.2]; rfl)]
    split at h0
    · rename_i ms hr
      exact hr
    · cases h0
  · cases h0
theorem askO_cases (h : List Int) (b l : List Atm) : (askO h b l).1 = 0 ∨ (askO h b l).1 = 2 ∨ (askO h b l).1 = 3 := by
  unfold askO
  split
  · split
    · exact .inl rfl
    · exact .inr (.inr rfl)
  · exact .inr (.inl rfl)
theorem fold_nil (fs : List Atm) : ∀ b : List Atm, b.foldl (stepM fs) [] = []
  | [] => rfl
  | a :: r => by rw [List.foldl_cons]; exact fold_nil fs r
theorem prodO {h g : List Int} {b c l : List Atm} (h1 : (askO h b l).1 = 0) (h2 : (askO g c l).1 = 0) (hd : varsB b &&& varsB c = 0) :
    ((askO h (b ++ c) l).1 = 0 ∧ (askO h (b ++ c) l).2.length = (askO h b l).2.length * (askO g c l).2.length) ∨ ((askO h (b ++ c) l).1 = 3 ∧ 0 < (askO h b l).2.length) ∨ ((askO h (b ++ c) l).1 = 2 ∧ 5 < (b ++ c).length) := by
  obtain ⟨q1, f1, r1⟩ := askO_ok h1
  obtain ⟨q2, -, r2⟩ := askO_ok h2
  rcases Nat.lt_or_ge 5 (b ++ c).length with hl | hl
  · refine .inr (.inr ⟨?_, hl⟩)
    have : okQ h (b ++ c) = false := by
      have : ¬ (b ++ c).length ≤ 5 := by omega
      simp only [okQ, decide_eq_false this, Bool.and_false, Bool.false_and]
    simp [askO, this]
  have q3 := okQ_app q1 q2 hl
  have hdis : ∀ i : Nat, i < 8 → (i : Int) ∈ b.flatMap Prod.snd → (i : Int) ∉ c.flatMap Prod.snd := fun i _ hb hc => by
    have := congrArg (fun z : Nat => z.testBit i) hd
    simp only [Nat.testBit_and, varsB_bit.2 hb, varsB_bit.2 hc, Nat.zero_testBit] at this
    cases this
  obtain ⟨e1, k1⟩ := runF_some.1 r1
  obtain ⟨e2, k2⟩ := runF_some.1 r2
  cases hr : runF l (b ++ c) with
  | some ms =>
    left
    have e3 : askO h (b ++ c) l = (0, ms) := by simp [askO, q3, f1, hr]
    rw [e3]
    refine ⟨rfl, ?_⟩
    rw [(runF_some.1 hr).1, e1, e2]
    exact product (srtF_pos (okF_pos f1)) (srtF_nodup l) (okB_term q1) (okB_term q2) hdis
  | none =>
    right; left
    have e3 : askO h (b ++ c) l = (3, []) := by simp [askO, q3, f1, hr]
    rw [e3]
    refine ⟨rfl, Nat.pos_of_ne_zero fun h0 => ?_⟩
    have hnil : allM (srtF l) b = [] := by
      rw [← e1]; exact List.length_eq_zero_iff.1 h0
    have : runF l (b ++ c) = some (allM (srtF l) (b ++ c)) := runF_some.2 ⟨rfl, fun k hk1 hk2 => by
      rcases Nat.lt_or_ge b.length k with hk | hk
      · have : allM (srtF l) ((b ++ c).take k) = [] := by
          rw [List.take_append, List.take_of_length_le (by omega)]
          unfold allM at hnil ⊢
          rw [List.foldl_append, hnil, fold_nil]
        rw [this]; simp
      · rw [List.take_append_of_le_length hk]
        exact k1 k hk1 hk⟩
    rw [this] at hr
    cases hr
theorem matchProducts_c {w : World} {hv bv gv cv lv : Value} {h g : List Int} {b c l : List Atm} (hh : SlI w hv h) (hb : SlA w bv b) (hg : SlI w gv g) (hc : SlA w cv c) (hl : SlA w lv l) : Calls Try.prog 4 #[.agg #[hv, bv], .agg #[gv, cv], lv] w (Ret w (.bool true)) := by
  refine f4_calls _ _ _ ?_
  refine ⟨_, rfl, fun w1 hw1 => ⟨_, rfl, fun w3 hw3 => ?_⟩⟩
  have g1 := alloc_grow hw1
  have g3 := alloc_grow hw3
  have g03 := g1.trans g3
  have k0 := g3.cell (boxc hw1 0 hv rfl)
  have k1 := g3.cell (boxc hw1 1 bv rfl)
  have j0 := boxc hw3 0 gv rfl
  have j1 := boxc hw3 1 cv rfl
  refine ⟨[_, _], rfl, two k0 k1, (ofS_c (hh.grow g03) (hb.gr g03)).mono ?_⟩
  rintro e w6 ⟨ha, ba, rfl, oha, oba, g6⟩
  refine ⟨_, rfl, (factsS_c (hl.gr (g03.trans g6))).mono ?_⟩
  rintro e w9 ⟨la, rfl, ola, g9⟩
  refine ⟨_, rfl, (count_c (oha.grow g9) (oba.gr g9) ola).mono ?_⟩
  rintro e w12 ⟨rfl, g12⟩
  have g312 := (g6.trans g9).trans g12
  refine ⟨_, _, rfl, [_, _], rfl, two (g312.cell j0) (g312.cell j1), (ofS_c (hg.grow (g03.trans g312)) (hc.gr (g03.trans g312))).mono ?_⟩
  rintro e w17 ⟨hc2, bc2, rfl, ohc, obc, g17⟩
  refine ⟨_, rfl, (factsS_c (hl.gr ((g03.trans g312).trans g17))).mono ?_⟩
  rintro e w20 ⟨lc, rfl, olc, g20⟩
  refine ⟨_, rfl, (count_c (ohc.grow g20) (obc.gr g20) olc).mono ?_⟩
  rintro e w23 ⟨rfl, g23⟩
  have g323 := g312.trans ((g17.trans g20).trans g23)
  obtain ⟨a1, e1⟩ : ∃ a1, a1 = askO (h.take 9) (trB b) (trF l) := ⟨_, rfl⟩
  obtain ⟨a2, e2⟩ : ∃ a2, a2 = askO (g.take 9) (trB c) (trF l) := ⟨_, rfl⟩
  rw [← e1, ← e2]
  have aw : ∀ {E : World}, Grow w E → Calls Try.prog 20 #[] E fun e w' => ∃ t : Bool, e = .returned (.bool t) ∧ Ret w (.bool true) (.returned (.bool t)) w' := fun g => awake_c.mono (by
    rintro e w' ⟨rfl, g'⟩
    exact ⟨_, rfl, rfl, g.trans g'⟩)
  have cases1 : a1.1 = 0 ∨ a1.1 = 2 ∨ a1.1 = 3 := by rw [e1]; exact askO_cases _ _ _
  have bad : ∀ {E : World}, Grow w E → condP (decide (a1.1 = (0 : Int))) (Calls Try.prog 20 #[] E fun e w' => ∃ t : Bool, e = .returned (.bool t) ∧ Ret w (.bool true) (.returned (.bool t)) w') (condP (decide (a1.1 = (2 : Int))) (Calls Try.prog 20 #[] E fun e w' => ∃ t : Bool, e = .returned (.bool t) ∧ Ret w (.bool true) (.returned (.bool t)) w') (condP (decide (a1.1 = (3 : Int))) (Calls Try.prog 20 #[] E fun e w' => ∃ t : Bool, e = .returned (.bool t) ∧ Ret w (.bool true) (.returned (.bool t)) w') (Ret w (.bool true) (.returned (.bool false)) E))) := fun g => by
    rcases cases1 with h | h | h
    · exact cT (by rw [h]; rfl) (aw g)
    · exact cF (by rw [h]; rfl) (cT (by rw [h]; rfl) (aw g))
    · exact cF (by rw [h]; rfl) (cF (by rw [h]; rfl) (cT (by rw [h]; rfl) (aw g)))
  refine ⟨_, _, rfl, condP_i (fun _ w27 g27 => bad ((g03.trans g323).trans g27)) fun h1 => condP_i (fun _ w37 g37 => bad ((g03.trans g323).trans g37)) fun h2 => ?_⟩
  have h1 : a1.1 = 0 := by simpa using h1
  have h2 : a2.1 = 0 := by simpa using h2
  rw [e1] at h1
  rw [e2] at h2
  have q1 := (askO_ok h1).1
  have q2 := (askO_ok h2).1
  have ob : ∀ a ∈ b, okA a = true := fun a ha => by
    rw [okQ_tr] at q1
    simp only [okQ, Bool.and_eq_true, List.all_eq_true] at q1
    exact q1.1.2 a ha
  have oc : ∀ a ∈ c, okA a = true := fun a ha => by
    rw [okQ_tr] at q2
    simp only [okQ, Bool.and_eq_true, List.all_eq_true] at q2
    exact q2.1.2 a ha
  have eb : trB b = b := (trB_of (by rwa [okQ_tr] at q1)).1
  have ec : trB c = c := (trB_of (by rwa [okQ_tr] at q2)).1
  refine ⟨[_, _], rfl, two (g323.cell k0) (g323.cell k1), (varsB b : Nat), fun w48 g48 => (refAll_c (hb.gr ((g03.trans g323).trans g48)) ob).mono ?_, [_, _], rfl, two (g323.cell j0) (g323.cell j1), (varsB c : Nat), fun w53 g53 => (refAll_c (hc.gr ((g03.trans g323).trans g53)) oc).mono ?_, fun w57 g57 => ?_⟩
  · rintro e w' ⟨rfl, g⟩
    exact ⟨rfl, g⟩
  · rintro e w' ⟨rfl, g⟩
    exact ⟨rfl, g⟩
  have g357 := g323.trans g57
  have v1 := varsB_lt ob
  have v2 := varsB_lt oc
  rw [iAnd_nat (by omega) (by omega)]
  refine condP_i (fun _ => bad (g03.trans g357)) fun hd => ?_
  have hd : varsB b &&& varsB c = 0 := by
    have : ((varsB b &&& varsB c : Nat) : Int) = 0 := by simpa using hd
    omega
  refine ⟨[_, _], rfl, two (g357.cell k0) (g357.cell k1), (of_c (hh.grow (g03.trans g357)) (hb.gr (g03.trans g357))).mono ?_⟩
  rintro e w68 ⟨hv2, bv2, rfl, oh2, ob2, g68, hdis⟩
  refine ⟨_, rfl, fun w71 hw71 => RecV.init (cs := [hv2, bv2]) hw71 rfl (by
    intro u hu
    simp at hu
    rcases hu with rfl | rfl
    · exact (Own.one oh2).2
    · exact ob2.one.2) fun w72 g72 s72 hR m => ?_⟩
  have gm : Grow w72 (dr w72 m) := (Grow.refl w72).dr m
  have g3E : ∀ {E}, Grow (dr w72 m) E → Grow w3 E := fun g => (g357.trans g68).trans ((g72.trans gm).trans g)
  have r0 : Grow (dr w72 m) (dr w72 m) := Grow.refl _
  have cB : ∀ {E}, Grow (dr w72 m) E → E.cell? (Addr.add ⟨w68.heap.size, 0, none⟩ 1) = some bv2 := fun g => (gm.trans g).cell (hR.cell (j := 1) rfl)
  have qq : ∀ {E}, Grow (dr w72 m) E → ∀ (t : Nat) (v : Value), [gv, cv][t]? = some v → E.cell? (Addr.add ⟨w1.heap.size, 0, none⟩ t) = some v := fun g => two ((g3E g).cell j0) ((g3E g).cell j1)
  have callOf : ∀ {Q : Ending → World → Prop}, (∀ hq bq E, OwnA E (dr w72 m).heap.size bq (trB c) → Grow (dr w72 m) E → Q (.returned (.agg #[hq, bq])) E) → Calls Try.prog 14 #[.agg #[gv, cv]] (dr w72 m) Q := fun hq => (of_c (hg.grow (g03.trans (g3E r0))) (hc.gr (g03.trans (g3E r0)))).mono (by
    rintro e E ⟨a, b', rfl, h1, h2, g, -⟩
    exact hq a b' E h2 g)
  have hbl := (okQ_len q1).2.1
  have hcl := (okQ_len q2).2.1
  have app : ∀ {E : World} {bq : Value} {K : Value → World → Prop}, OwnA E (dr w72 m).heap.size bq (trB c) → Grow (dr w72 m) E → (∀ v2 w2, oneV v2 → RecV w2 w68.heap.size [hv2, bv2] → (∀ w3, Fr (fun k => k = w68.heap.size) w2 w3 → SlI w3 hv2 (h.take 9) ∧ SlA w3 v2 (trB b ++ trB c)) → Grow w w2 → K v2 w2) → PApp Try.prog 31 31 bv2 bq E K := fun {E bq K} hq gE hk => by
    obtain ⟨ps, hps, hel, hown⟩ := hq.ex
    have hpl : ps.length = (trB c).length := by rw [← hps, List.length_map]
    have g68E := (g72.trans gm).trans gE
    have s68 := g72.size
    have hsl := hown.slC
    rw [← hpl] at hsl
    refine pappX (qs := ps) el_atom (by omega) (ob2.grow g68E) hsl (fun q hq => ⟨(hel q hq).len, (hel q hq).one, fun w' hf => (hel q hq).rep w' (hf.mono fun k _ e => ?_)⟩) (by have := g68E.size; have := g68.size; omega) (by omega) (by omega) ?_
    · left
      show k < (dr w72 m).heap.size
      have h9 : (dr w72 m).heap.size = w72.heap.size := rfl
      rcases e with e | e
      · have e : k < w57.heap.size := e
        have := g68.size
        omega
      · have := (ob2.lt e.symm).2
        omega
    · intro v2 w2 ho2 hf2 _ hbk
      rw [hps] at ho2
      have hne : ∀ k, some k = bv2.ownBlock → k < w68.heap.size ∧ w57.heap.size ≤ k := fun k e => ⟨(ob2.lt e.symm).2, (ob2.lt e.symm).1⟩
      refine hk v2 w2 ho2.one (((hR.grow gm).grow gE).fr hf2 fun e => ?_) (fun w3 hf3 => ⟨?_, ?_⟩) ?_
      · have := (hne _ e).1; omega
      · refine Own.slI (Own.fr (Own.fr (Own.grow oh2 g68E) hf2 fun k hk e => ?_) hf3 fun k hk e => ?_)
        · exact hdis k hk e.symm
        · have := (Own.lt oh2 hk).2; omega
      · refine SlA.skip (SlB.of_rec (((hR.grow gm).grow gE).fr hf2 fun e => by have := (hne _ e).1; omega) fun u hu => ?_) ho2.slX hf3
        simp at hu
        rcases hu with rfl | rfl
        · obtain ⟨a, c, e, _⟩ := (Own.slC oh2).ex
          exact ⟨a, _, c, e⟩
        · obtain ⟨a, c, e, _⟩ := ob2.slX.ex
          exact ⟨a, _, c, e⟩
      · exact ((g03.trans g357).trans (g68.trans g68E)).fr hf2 fun i hi e => by
          have := (hne _ e).2
          have := (g03.trans g357).size
          omega
  have hbnd : ∀ x y : Nat, x ≤ 20000 → y ≤ 20000 → inR ((x : Int) * (y : Int)) := fun x y hx hy => by
    have h3 : x * y ≤ 20000 * 20000 := Nat.mul_le_mul hx hy
    have h4 : (x : Int) * (y : Int) = ((x * y : Nat) : Int) := by simp
    rw [h4]
    unfold inR
    omega
  have hr1 := runF_len (askO_ok h1).2.2 (okQ_len q1).1
  have hr2 := runF_len (askO_ok h2).2.2 (okQ_len q2).1
  have hprod := prodO h1 h2 (by rw [eb, ec]; exact hd)
  rw [e1, e2]
  -- behind the count
  have last : ∀ {E : World}, Grow w E → RecV E w68.heap.size [hv2, bv2] → True := fun _ _ => trivial
  repeat' first
    | refine And.intro ?_ ?_
    | refine ⟨_, cB r0, ?_⟩
    | refine ⟨[_, _], rfl, qq r0, ?_⟩
    | (refine callOf ?_; intro hq' bq' E obq gE; refine ⟨_, rfl, ?_⟩)
    | refine ⟨_, ⟨_, rfl, rfl⟩, ?_⟩
    | refine ⟨_, cB ‹Grow (dr w72 m) _›, ?_⟩
    | (refine app ‹OwnA _ _ _ _› ‹Grow (dr w72 m) _› ?_
       intro v2 w83 hv hr83 hst g83
       refine ⟨hv, ⟨_, hr83.cell (j := 1) rfl⟩, hr83.free 1, fun w84 hw84 m85 => ?_⟩
       have hr84 := hr83.set hw84
       have hs84 := hst w84 (RecV.set_fr hw84)
       have g84 : Grow w w84 := g83.fr (RecV.set_fr hw84) fun i hi e => by have := (g03.trans g357).size; have := g68.size; omega
       have gd : Grow w84 (dr w84 m85) := (Grow.refl w84).dr m85
       have bc : ∀ {E}, Grow (dr w84 m85) E → ∀ (t : Nat) (v : Value), [hv2, v2][t]? = some v → E.cell? (Addr.add ⟨w68.heap.size, 0, none⟩ t) = some v := fun g => two ((gd.trans g).cell (hr84.cell (j := 0) rfl)) ((gd.trans g).cell (hr84.cell (j := 1) rfl))
       have rd : Grow (dr w84 m85) (dr w84 m85) := Grow.refl _
       have callFacts : ∀ {Q : Ending → World → Prop}, (∀ v' E', SlA E' v' (trF l) → Grow (dr w84 m85) E' → Q (.returned v') E') → Calls Try.prog 15 #[lv] (dr w84 m85) Q := fun hq => (factsS_c (hl.gr (g84.trans gd))).mono (by
         rintro e E ⟨v', rfl, ho, g⟩
         exact hq v' E ho g)
       have callCount : ∀ {E : World} {v' : Value} {Q : Ending → World → Prop}, SlA E v' (trF l) → Grow (dr w84 m85) E → (∀ E', Grow E E' → Q (.returned (.tuple #[.int .i64 ((askO (h.take 9) (trB b ++ trB c) (trF l)).2.length : Int), .int .i64 (askO (h.take 9) (trB b ++ trB c) (trF l)).1])) E') → Calls Try.prog 17 #[.agg #[hv2, v2], v'] E Q := fun hv' g hq => (count_c (hs84.1.grow (gd.trans g)) (hs84.2.gr (gd.trans g)) hv').mono (by
         rintro e E' ⟨rfl, g'⟩
         exact hq E' g')
       repeat' first
         | refine And.intro ?_ ?_
         | refine ⟨[_, _], rfl, bc rd, ?_⟩
         | (refine callFacts ?_; intro fv E hfv gE; refine ⟨fv, rfl, ?_⟩)
         | refine ⟨[_, _], rfl, bc ‹Grow (dr w84 m85) _›, ?_⟩
         | (refine callCount ‹SlA _ _ (trF l)› ‹Grow (dr w84 m85) _› ?_
            intro E' gE'
            have gA : Grow w E' := ((g84.trans gd).trans ‹Grow (dr w84 m85) _›).trans gE'
            have cA : E'.cell? (Addr.add ⟨w68.heap.size, 0, none⟩ 1) = some v2 := gE'.cell (bc ‹Grow (dr w84 m85) _› 1 _ rfl)
            have sA : SlA E' v2 (trB b ++ trB c) := SlA.gr (SlA.gr hs84.2 (gd.trans ‹Grow (dr w84 m85) _›)) gE'
            refine ⟨_, _, rfl, ?_⟩
            rcases hprod with ⟨z0, zn⟩ | ⟨z3, zp⟩ | ⟨z2, zl⟩
            · exact cT (decide_eq_true z0) ⟨hbnd _ _ hr1 hr2, cT (decide_eq_true (by rw [zn]; simp)) (aw gA)⟩
            · exact cF (decide_eq_false (by rw [z3]; decide)) (cT (decide_eq_true z3) (cT (decide_eq_true (by omega)) (aw gA)))
            · exact cF (decide_eq_false (by rw [z2]; decide)) (cF (decide_eq_false (by rw [z2]; decide)) (cT (decide_eq_true z2) ⟨_, cA, SlX.ln sA (cT (decide_eq_true (by omega)) (aw gA))⟩))))
end Go.Proofs.Ytjkphmbjdleppaa
