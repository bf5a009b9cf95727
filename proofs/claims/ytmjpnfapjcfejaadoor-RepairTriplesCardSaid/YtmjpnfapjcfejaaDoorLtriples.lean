/- The statement RepairTriples, as a contract. The table of bits is laid (Tab). -/
import Derived.Test.YtmjpnfapjcfejaaDoorSv
import Derived.Test.YtmjpnfapjcfejaaDoorSl
import Derived.Test.YtmjpnfapjcfejaaDoorSa
import Derived.Test.YtmjpnfapjcfejaaDoorGtriples
namespace Go.Proofs.YtmjpnfapjcfejaaDoor
open Go Go.RowKit VC
set_option linter.unusedSimpArgs false
set_option linter.unusedVariables false

/-- Attacks, in an array of the call's own. -/
theorem AttacksO_c {w : World} {sv hv bv : Value} {s h : List Int} {b : List Atm} (hs : SlI w sv s) (hh : SlI w hv h) (sb : SlA w bv b) : Calls Tryd.prog 17 #[sv, .agg #[hv, bv]] w fun e w' => ∃ v, e = .returned (.tuple #[v, .int .i64 (askN s h b)]) ∧ OwnT w' w.heap.size v (if askN s h b = 0 then attR (varsOf b) (keysOf s b) else []) ∧ Grow w w' := by
  refine f17_calls _ _ ⟨_, rfl, fun w1 hw1 => ?_⟩
  have g1 := alloc_grow hw1
  have hQ := RecV.new hw1
  refine ⟨[_, _], rfl, hQ.all, (askedN_c (hs.grow g1) (hh.grow g1) (sb.gr g1)).mono ?_⟩
  rintro e w4 ⟨rfl, g4⟩
  have g04 := g1.trans g4
  refine ⟨_, rfl, condP_i (fun hne => ?_) fun h0 => ?_⟩
  · have hne : ¬ askN s h b = 0 := by simpa using hne
    rw [if_neg hne]
    exact ⟨_, rfl, Own.nil _ _ _ _, g04⟩
  · have h0 : askN s h b = 0 := by simpa using h0
    obtain ⟨o1, o2, o3, o4⟩ := askN_ok h0
    refine ⟨[_, _], rfl, (hQ.grow g4).all, (attacks_c (hs.grow g04) (sb.gr g04) o1 (okQ_all o2) (okQ_len o2).2.1 o3).mono ?_⟩
    rintro e w8 ⟨v, rfl, ho, g8⟩
    rw [if_pos h0, h0]
    exact ⟨_, rfl, _, rfl, Own.mono ho g04.size, g04.trans g8⟩
def hasB (l : List At3) (f g : Int) : Bool := l.any fun e => decide (e.1 = f) && decide (e.2.1 = g)
theorem hasB_iff {V K : List Nat} {f g : Nat} : hasB (attR V K) (f : Int) (g : Int) = true ↔ f < V.length ∧ g < V.length ∧ attN V K f g = true := by
  unfold hasB
  rw [List.any_eq_true]
  constructor
  · rintro ⟨e, he, h⟩
    obtain ⟨f', g', hf, hg, ha, rfl⟩ := mem_attR.1 he
    rw [Bool.and_eq_true, decide_eq_true_eq, decide_eq_true_eq] at h
    have h1 : (f' : Int) = f := h.1
    have h2 : (g' : Int) = g := h.2
    have h1 : f' = f := by omega
    have h2 : g' = g := by omega
    subst h1
    subst h2
    exact ⟨hf, hg, ha⟩
  · rintro ⟨hf, hg, ha⟩
    exact ⟨_, mem_attR.2 ⟨f, g, hf, hg, ha, rfl⟩, by simp [atS]⟩
theorem has1_c {w : World} {e : At3} {p q : Addr} {f g : Int} (c0 : w.cell? p = some (.int .i64 f)) (c1 : w.cell? q = some (.int .i64 g)) : Calls Tryd.prog 20 #[.agg (opF e).toArray, .pointer (some p), .pointer (some q)] w (Ret w (.bool (decide (e.1 = f) && decide (e.2.1 = g)))) := by
  refine f20_calls _ _ _ ⟨_, rfl, fun w1 hw1 => ?_⟩
  have g1 := alloc_grow hw1
  refine ⟨⟨by omega, by omega⟩, _, boxc hw1 _ _ rfl, _, g1.cell c0, condD (fun he => ⟨⟨by omega, by omega⟩, _, boxc hw1 _ _ rfl, _, g1.cell c1, ?_, g1⟩) fun hne => ⟨?_, g1⟩⟩
  · rw [decide_eq_true he, Bool.true_and]
  · rw [decide_eq_false hne]; rfl
theorem has_c {w : World} {a : Addr} {lv : Value} {l : List At3} {f g : Int} (hb : w.cell? a = some lv) (hl : SlT w lv l) : Calls Tryd.prog 18 #[.int .i64 f, .int .i64 g, .pointer (some a)] w (Ret w (.bool (hasB l f g))) := by
  refine f18_calls _ _ _ fun w1 hw1 w2 hw2 => ?_
  have g1 := alloc_grow hw1
  have g2 := alloc_grow hw2
  have g02 := g1.trans g2
  refine ⟨lv, g02.cell hb, (containsT_c (p := fun e => decide (e.1 = f) && decide (e.2.1 = g)) (SlR.grow hl g02) ⟨20, #[], _, rfl, rfl, fun e he w' gw => ?_⟩).mono ?_⟩
  · exact has1_c (gw.cell (g2.cell (Box.new hw1).cell)) (gw.cell (Box.new hw2).cell)
  · rintro e w4 ⟨rfl, g4⟩
    exact ⟨_, rfl, rfl, g02.trans g4⟩
/-- Some of the first k attacks go both ways. -/
def mutK (l : List At3) (k : Nat) : Bool := (l.take k).any fun e => hasB l e.2.1 e.1
theorem mutK_succ {l : List At3} {k : Nat} (hk : k < l.length) : mutK l (k + 1) = (mutK l k || hasB l l[k].2.1 l[k].1) := by
  unfold mutK
  rw [List.take_succ_eq_append_getElem hk, List.any_append]
  simp
theorem mutK_all {V K : List Nat} : mutK (attR V K) (attR V K).length = mutB V K := by
  unfold mutK
  rw [List.take_length, Bool.eq_iff_iff, mutB_iff, List.any_eq_true]
  constructor
  · rintro ⟨e, he, h⟩
    obtain ⟨f, g, hf, hg, ha, rfl⟩ := mem_attR.1 he
    obtain ⟨-, -, h2⟩ := hasB_iff.1 h
    exact ⟨f, g, hf, hg, ha, h2⟩
  · rintro ⟨f, g, hf, hg, h1, h2⟩
    exact ⟨_, mem_attR.2 ⟨f, g, hf, hg, h1, rfl⟩, hasB_iff.2 ⟨hg, hf, h2⟩⟩
theorem repairTriples_c {w : World} {sv hv bv : Value} {s h : List Int} {b : List Atm} (hs : SlI w sv s) (hh : SlI w hv h) (hb : SlA w bv b) (hT : Tab w) :
    Calls Tryd.prog 4 #[sv, .agg #[hv, bv]] w (Ret w (.bool true)) := by
  refine f4_calls _ _ ⟨_, rfl, fun w1 hw1 => ?_⟩
  have g1 := alloc_grow hw1
  have hQ := RecV.new hw1
  obtain ⟨V, eV⟩ : ∃ V, V = varsOf b := ⟨_, rfl⟩
  obtain ⟨K, eK⟩ : ∃ K, K = keysOf s b := ⟨_, rfl⟩
  have hVl : V.length = b.length := by rw [eV]; simp [varsOf]
  -- the attacks of the copy, put into a box
  refine ⟨fun a z w' => ∃ (blk : Nat) (lv : Value), a = ⟨blk, 0, none⟩ ∧ z = askN s h b ∧ Box w' blk lv ∧ SlT w' lv (if askN s h b = 0 then attR V K else []) ∧ Grow w1 w', fun d => ?_, ?_⟩
  · have gd : Grow w1 (dr w1 d.1) := (Grow.refl w1).dr d.1
    have hbT : ∀ h1 b1 : List Int, True := fun _ _ => trivial
    have eT : ∀ {l : List At3}, l = (if askN (s.take 9) (h.take 9) (trB b) = 0 then attR (varsOf (trB b)) (keysOf (s.take 9) (trB b)) else []) → l = (if askN s h b = 0 then attR V K else []) := fun {l} e => by
      rw [askN_tr] at e
      rw [e]
      by_cases h0 : askN s h b = 0
      · rw [if_pos h0, if_pos h0]
        obtain ⟨o1, o2, -, -⟩ := askN_ok h0
        rw [(trB_of o2).1, okS_take o1, eV, eK]
      · rw [if_neg h0, if_neg h0]
    have few : ∀ {E} {Q : Ending → World → Prop}, Grow w1 E → (∀ v E', SlI E' v (s.take 9) → Grow E E' → Q (.returned v) E') → Calls Tryd.prog 7 #[sv] E Q := fun g hq => (few7_c (hs.grow (g1.trans g))).mono (by
      rintro e E' ⟨v, rfl, ho, g'⟩
      exact hq v E' (Own.slI ho) g')
    have ofq : ∀ {E} {Q : Ending → World → Prop}, Grow w1 E → (∀ h1 b1 E', SlI E' h1 (h.take 9) → SlA E' b1 (trB b) → Grow E E' → Q (.returned (.agg #[h1, b1])) E') → Calls Tryd.prog 9 #[.agg #[hv, bv]] E Q := fun g hq => (ofS_c (hh.grow (g1.trans g)) (hb.gr (g1.trans g))).mono (by
      rintro e E' ⟨h1, b1, rfl, o1, o2, g'⟩
      exact hq h1 b1 E' o1 o2 g')
    have put : ∀ {E E' : World} {blk : Nat} {lv old : Value}, Grow w1 E' → w1.heap.size ≤ blk → Box E' blk old → OwnT E' (blk + 1) lv (if askN (s.take 9) (h.take 9) (trB b) = 0 then attR (varsOf (trB b)) (keysOf (s.take 9) (trB b)) else []) ∨ OwnT E' w1.heap.size lv (if askN (s.take 9) (h.take 9) (trB b) = 0 then attR (varsOf (trB b)) (keysOf (s.take 9) (trB b)) else []) ∧ E'.heap.size ≤ blk + 1 ∧ (∀ k, lv.ownBlock = some k → k < blk) → oneV lv ∧ (∃ old, E'.cell? ⟨blk, 0, none⟩ = some old) ∧ E'.frozen? ⟨blk, 0, none⟩ = false ∧ ∀ w18, w18 = E'.setCell ⟨blk, 0, none⟩ lv →
        ∃ (blk' : Nat) (lv' : Value), (⟨blk, 0, none⟩ : Addr) = ⟨blk', 0, none⟩ ∧ askN (s.take 9) (h.take 9) (trB b) = askN s h b ∧ Box w18 blk' lv' ∧ SlT w18 lv' (if askN s h b = 0 then attR V K else []) ∧ Grow w1 w18 := fun {E E' blk lv old} g hlt hbx ho => by
      have hne : ∀ k, lv.ownBlock = some k → k ≠ blk := fun k hk => by
        rcases ho with ho | ⟨ho, h1, h2⟩
        · have := (Own.lt ho hk).1; omega
        · have := h2 k hk; omega
      obtain ⟨B, hoB⟩ : ∃ B, OwnT E' B lv (if askN s h b = 0 then attR V K else []) := by
        rcases ho with ho | ⟨ho, -, -⟩
        · exact ⟨_, (eT rfl) ▸ ho⟩
        · exact ⟨_, (eT rfl) ▸ ho⟩
      refine ⟨Own.one hoB, ⟨_, hbx.cell⟩, hbx.free, fun w18 hw18 => ⟨blk, lv, rfl, askN_tr s h b, hbx.set hw18, Own.slR (Own.fr hoB (set_fr hw18) fun k hk e => hne k hk e), g.fr (set_fr hw18) fun i hi e => by have e : i = blk := e; omega⟩⟩
    have s1 := gd.size
    refine ⟨[_, _], rfl, (hQ.grow gd).all, few gd fun v7 E7 o7 g7 => ⟨v7, rfl, g7, ofq (gd.trans g7) fun h10 b10 E10 o10 p10 g10 => ⟨_, rfl, g10, (AttacksO_c (o7.grow g10) o10 p10).mono ?_, fun w19 hw19 => (AttacksO_c (o7.grow (g10.trans (alloc_grow hw19))) (o10.grow (alloc_grow hw19)) (p10.gr (alloc_grow hw19))).mono ?_⟩, fun w25 hw25 => ofq ((gd.trans g7).trans (alloc_grow hw25)) fun h26 b26 E26 o26 p26 g26 => ⟨_, rfl, g26, (AttacksO_c (o7.grow ((alloc_grow hw25).trans g26)) o26 p26).mono ?_⟩⟩, fun w34 hw34 => few (gd.trans (alloc_grow hw34)) fun v35 E35 o35 g35 => ⟨v35, rfl, g35, ofq ((gd.trans (alloc_grow hw34)).trans g35) fun h38 b38 E38 o38 p38 g38 => ⟨_, rfl, g38, (AttacksO_c (o35.grow g38) o38 p38).mono ?_⟩⟩⟩
    · rintro e E13 ⟨lv, rfl, ho, g13⟩
      refine ⟨_, _, rfl, g13, fun w17 hw17 => ?_⟩
      have g17 := alloc_grow hw17
      have s17 := alloc_size hw17
      have ga := ((gd.trans g7).trans g10).trans g13
      have := ga.size
      exact put (E := E13) (ga.trans g17) (by omega) (Box.new hw17) (.inr ⟨Own.mono (Own.grow ho g17) (by have := ((gd.trans g7).trans g10).size; omega), by omega, fun k hk => (Own.lt ho hk).2⟩)
    · rintro e E20 ⟨lv, rfl, ho, g20⟩
      refine ⟨_, _, rfl, g20, ?_⟩
      have s19 := alloc_size hw19
      have ga := (gd.trans g7).trans g10
      have := ga.size
      exact put (E := E20) (ga.trans ((alloc_grow hw19).trans g20)) (by omega) ((Box.new hw19).grow g20) (.inl (Own.mono ho (by omega)))
    · rintro e E29 ⟨lv, rfl, ho, g29⟩
      refine ⟨_, _, rfl, g29, ?_⟩
      have s25 := alloc_size hw25
      have ga := gd.trans g7
      have := ga.size
      have := g26.size
      exact put (E := E29) (ga.trans ((alloc_grow hw25).trans (g26.trans g29))) (by omega) ((Box.new hw25).grow (g26.trans g29)) (.inl (Own.mono ho (by omega)))
    · rintro e E41 ⟨lv, rfl, ho, g41⟩
      refine ⟨_, _, rfl, g41, ?_⟩
      have s34 := alloc_size hw34
      have := (g35.trans g38).size
      exact put (E := E41) (gd.trans ((alloc_grow hw34).trans ((g35.trans g38).trans g41))) (by omega) ((Box.new hw34).grow ((g35.trans g38).trans g41)) (.inl (Own.mono ho (by omega)))
  rintro - a z w48 ⟨blk, lv, rfl, rfl, hbx, hl, g48⟩
  have g048 := g1.trans g48
  have fin : ∀ {E : World}, Grow w E → Calls Tryd.prog 13 #[] E fun e w' => ∃ t : Bool, e = .returned (Value.bool t) ∧ Ret w (.bool true) (.returned (Value.bool t)) w' := fun gE => awake7_c.mono (by
    rintro e w23 ⟨rfl, g23⟩
    exact ⟨_, rfl, rfl, gE.trans g23⟩)
  refine condP_i (fun hne => ?_) fun h0 => ?_
  · have hne : ¬ askN s h b = 0 := by simpa using hne
    refine condD (fun _ => fin g048) fun h2 => condD (fun _ => fin g048) fun h7 => absurd ?_ hne
    unfold askN at h2 h7 hne
    split at hne
    · split at hne
      · exact absurd rfl hne
      · rename_i c1 c2
        rw [if_pos c1, if_neg c2] at h7
        exact absurd rfl h7
    · rename_i c1
      rw [if_neg c1] at h2
      exact absurd rfl h2
  have h0 : askN s h b = 0 := by simpa using h0
  rw [if_pos h0] at hl
  obtain ⟨hS, hq, hK, hP⟩ := askN_ok h0
  have hA := okQ_all hq
  have h5 := (okQ_len hq).2.1
  have hale : (attR V K).length ≤ 25 := by
    have h1 := atF_le V K V.length
    have h2 : V.length * V.length ≤ 5 * 5 := Nat.mul_le_mul (by omega) (by omega)
    unfold attR
    omega
  have hvk : VK_ (klS s) b (domM m0) V K := by rw [eV, eK]; exact vk_m0 hA
  have hpl := (plnB_iff hP).1
  have hnd := (plnB_iff hP).2
  have hQ48 := hQ.grow g48
  refine ⟨[_, _], rfl, hQ48.all, (refValid_c (hh.grow g048) (hb.gr g048)).mono ?_⟩
  rintro e w56 ⟨rfl, g56⟩
  have g156 := g48.trans g56
  have g056 := g1.trans g156
  have hb56 := hbx.grow g56
  have hl56 := SlR.grow hl g56
  refine ⟨_, rfl, cF (by rw [hq]; rfl) ⟨lv, hb56.cell, SlR.ln hl56 ?_⟩⟩
  refine ⟨fun mu t w' => ∃ k : Nat, t = k ∧ k ≤ (attR V K).length ∧ mu = mutK (attR V K) k ∧ Grow w56 w', fun _ t _ => (attR V K).length - t.toNat, ⟨0, rfl, by omega, rfl, Grow.refl _⟩, ?_⟩
  rintro - mu t w74 ⟨k, rfl, hk, rfl, g74⟩
  have g174 := g156.trans g74
  have g074 := g1.trans g174
  refine condD (fun hlt => ?_) fun hge => ?_
  · have hkl : k < (attR V K).length := by omega
    obtain ⟨f, g, hf, hg, ha, ex⟩ := mem_attR.1 (List.getElem_mem hkl)
    have hfg := attN_ne ha
    refine locF opF_len opF_one hl56 g74 rfl hkl rfl fun w80 g80 s80 hr => ?_
    rw [ex] at hr
    have hr : RecV w80 w74.heap.size [.int .i64 (f : Int), .int .i64 (g : Int), .int .i64 (atS V K f g).2.2] := hr
    have g180 := g174.trans g80
    have g080 := g1.trans g180
    have c0 : ∀ {E}, Grow w80 E → E.cell? (Addr.add ⟨w74.heap.size, 0, none⟩ (Int.toNat 0 * 1)) = some (.int .i64 (f : Int)) := fun gE => (hr.grow gE).cell (j := _) rfl
    have c1 : ∀ {E}, Grow w80 E → E.cell? (Addr.add ⟨w74.heap.size, 0, none⟩ (Int.toNat 1 * 1)) = some (.int .i64 (g : Int)) := fun gE => (hr.grow gE).cell (j := _) rfl
    have q1 : ∀ {E}, Grow w80 E → E.cell? (Addr.add ⟨w.heap.size, 0, none⟩ 1) = some bv := fun gE => (hQ.grow (g180.trans gE)).cell (j := 1) rfl
    have has : ∀ {E : World} (i j : Nat), Grow w80 E → Calls Tryd.prog 18 #[.int .i64 (i : Int), .int .i64 (j : Int), .pointer (some ⟨blk, 0, none⟩)] E (Ret E (.bool (hasB (attR V K) (i : Int) (j : Int)))) := fun i j gE => has_c (hb56.grow (g74.trans (g80.trans gE))).cell (SlR.grow hl56 (g74.trans (g80.trans gE)))
    have R0 := Grow.refl w80
    refine ⟨by omega, _, c0 R0, by omega, _, c1 R0, cF (decide_eq_false (by omega)) ⟨by omega, _, c0 R0, cF (decide_eq_false (by omega)) ⟨by omega, _, c1 R0, cF (decide_eq_false (by omega)) ⟨by omega, _, c0 R0, _, q1 R0, SlX.ln hb (cF (decide_eq_false (by omega)) ⟨by omega, _, c1 R0, _, q1 R0, SlX.ln hb (cF (decide_eq_false (by omega)) ?_)⟩)⟩⟩⟩⟩
    have hst := mutK_succ hkl
    rw [ex] at hst
    have hst : mutK (attR V K) (k + 1) = (mutK (attR V K) k || hasB (attR V K) (g : Int) (f : Int)) := hst
    refine ⟨fun mu w' => mu = mutK (attR V K) (k + 1) ∧ Grow w80 w', condP_i (fun hm => ⟨by rw [hst, hm]; rfl, R0⟩) fun hm => ⟨by omega, _, c1 R0, by omega, _, c0 R0, _, _, _, rfl, by kernel_rfl, (has g f R0).mono ?_⟩, ?_⟩
    · rintro e w100 ⟨rfl, g100⟩
      exact ⟨_, rfl, by rw [hst, hm, Bool.false_or], g100⟩
    rintro - mu w107 ⟨rfl, g107⟩
    refine ⟨_, q1 g107, SlX.ln hb ⟨fun t w' => ∃ i : Nat, t = i ∧ i ≤ b.length ∧ Grow w80 w', fun t _ => b.length - t.toNat, ⟨0, rfl, by omega, g107⟩, ?_⟩⟩
    rintro - t w116 ⟨i, rfl, hi, g116⟩
    have next : ∀ {w'}, Grow w80 w' → inR ((i : Int) + 1) ∧ ((∃ i' : Nat, (i : Int) + 1 = i' ∧ i' ≤ b.length ∧ Grow w80 w') ∧ b.length - Int.toNat ((i : Int) + 1) < b.length - Int.toNat (i : Int)) ∨ ¬ i < b.length := fun gE => by
      by_cases hil : i < b.length
      · exact .inl ⟨by unfold inR; omega, ⟨i + 1, by omega, by omega, gE⟩, by omega⟩
      · exact .inr hil
    refine condD (fun hlt2 => ?_) fun hge2 => ?_
    · have hil : i < b.length := by omega
      have next : ∀ {w'}, Grow w80 w' → inR ((i : Int) + 1) ∧ ((∃ i' : Nat, (i : Int) + 1 = i' ∧ i' ≤ b.length ∧ Grow w80 w') ∧ b.length - Int.toNat ((i : Int) + 1) < b.length - Int.toNat (i : Int)) := fun gE => ⟨by unfold inR; omega, ⟨i + 1, by omega, by omega, gE⟩, by omega⟩
      refine ⟨by omega, _, c0 g116, condP_i (fun hif => ⟨by omega, _, c1 g116, _, _, _, rfl, by kernel_rfl, (has g i g116).mono ?_⟩) fun _ => next g116⟩
      have hif : (i : Int) ≠ (f : Int) := by simpa using hif
      rintro e w119 ⟨rfl, g119⟩
      have ga := g116.trans g119
      refine ⟨_, rfl, condP_i (fun h1 => ⟨by omega, _, c0 ga, _, _, _, rfl, by kernel_rfl, (has f i ga).mono ?_⟩) fun _ => next ga⟩
      rintro e w126 ⟨rfl, g126⟩
      have gb := ga.trans g126
      refine ⟨_, rfl, condP_i (fun h2 => ⟨by omega, _, c1 gb, by omega, _, c0 gb, _, _, _, rfl, by kernel_rfl, (has g f gb).mono ?_⟩) fun _ => next gb⟩
      rintro e w134 ⟨rfl, g134⟩
      have gc := gb.trans g134
      refine ⟨_, rfl, condP_i (fun h3 => ?_) fun _ => next gc⟩
      exfalso
      have h2 : ¬ hasB (attR V K) (f : Int) (i : Int) = true := by simpa using h2
      have h3 : ¬ hasB (attR V K) (g : Int) (f : Int) = true := by simpa using h3
      obtain ⟨-, hi2, h1⟩ := hasB_iff.1 h1
      have hfb : f < b.length := by omega
      have hgb : g < b.length := by omega
      have a1 := (attN_iff hvk hpl hnd hfb hgb).1 ha
      have a2 := (attN_iff hvk hpl hnd hgb hil).1 h1
      rcases att_three hpl (List.getElem_mem hgb) a1 a2 ((idx_ne hpl hnd hil hfb).2 (by omega)) with h | h
      · exact h2 (hasB_iff.2 ⟨hf, hi2, (attN_iff hvk hpl hnd hfb hil).2 h⟩)
      · exact h3 (hasB_iff.2 ⟨hg, hf, (attN_iff hvk hpl hnd hgb hfb).2 h⟩)
    · exact ⟨by unfold inR; omega, ⟨k + 1, by omega, by omega, rfl, (g74.trans g80).trans g116⟩, by dsimp only; omega⟩
  · have hkn : k = (attR V K).length := by omega
    rw [hkn, mutK_all]
    refine ⟨[_, _], rfl, (hQ.grow g174).all, (ofS_c (hh.grow g074) (hb.gr g074)).mono ?_⟩
    rintro e w141 ⟨h1, b1, rfl, o1, o2, g141⟩
    have g1141 := g174.trans g141
    have g0141 := g1.trans g1141
    refine ⟨_, rfl, fun w144 hw144 => RecV.init (cs := [h1, b1]) hw144 rfl (by
      intro u hu
      simp at hu
      rcases hu with rfl | rfl
      · exact o1.one.2
      · exact SlX.one o2 |>.2) fun w145 g145 s145 hr145 => ⟨⟨rfl, rfl⟩, ⟨_, hr145.cell (j := 0) rfl⟩, hr145.free 0, fun w147 hw147 d => ?_⟩⟩
    have hr147 : RecV w147 w141.heap.size [.slice none 0 0, b1] := hr145.set hw147
    have g147 : Grow w141 w147 := g145.fr (RecV.set_fr hw147) fun i hi e => by omega
    have gd : Grow w147 (dr w147 d.1) := (Grow.refl w147).dr d.1
    have g141d := g147.trans gd
    have g0d := g0141.trans g141d
    refine ⟨[_, _], rfl, (hr147.grow gd).all, (few7_c (hs.grow g0d)).mono ?_⟩
    rintro e w150 ⟨s1, rfl, os1, g150⟩
    have g0150 := g0d.trans g150
    refine ⟨_, rfl, g150, (RewriteP_c (h := []) (L := []) (Own.slI os1) (SlX.nil _) (SlI.nil _) (o2.grow repA_mono (g141d.trans g150)) (hT.grow g0150)).mono ?_⟩
    have hr := rewO_tr s [] b []
    have e1 : rewO (s.take 9) [] (trB b) [] = rewO s [] b [] := hr
    rw [e1]
    have hq0 := askN_tr0 s h b hq
    have ha0 : askN s [] b = 0 := by rw [askN, hS, hq0, hK, hP]; rfl
    have hok : okR s [] = true := by rw [okR, hS]; rfl
    have e2 : rewO s [] b [] = (if mutB V K = true then (false, 7) else (rewR (klS s) [] b.length b m0, 0)) := by rw [rewO, if_pos ⟨hok, rfl⟩, if_pos ha0, eV, eK]
    rw [e2]
    rintro e w153 ⟨rfl, g153⟩
    have g0153 := g0150.trans g153
    refine ⟨_, _, rfl, g153, ?_⟩
    cases hm : mutB V K with
    | true => exact cT rfl (cT rfl (fin g0153))
    | false => exact cT rfl (cF rfl (cT rfl (fin g0153)))
end Go.Proofs.YtmjpnfapjcfejaaDoor
