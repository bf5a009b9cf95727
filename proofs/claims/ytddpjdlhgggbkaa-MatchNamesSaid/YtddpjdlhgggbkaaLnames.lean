/- The statement MatchNames, as a contract. No condition. -/
import Derived.Test.YtddpjdlhgggbkaaTq
namespace Go.Proofs.Ytddpjdlhgggbkaa
open Go Go.RowKit VC
set_option linter.unusedSimpArgs false
set_option linter.unusedVariables false

/-- Results of a query in facts, or why there are none. -/
theorem results3_c {w : World} {hv bv fv : Value} {h : List Int} {b l : List Atm} (sh : SlI w hv h) (sb : SlA w bv b) (sf : SlA w fv (trF l)) : Calls Try.prog 8 #[.agg #[hv, bv], fv] w fun e w' => ∃ v, e = .returned (.tuple #[v, .int .i64 (resO h b (trF l)).1]) ∧ SlL w' v (resO h b (trF l)).2 ∧ Grow w w' := results_c sh sb sf
theorem matchNames_c {w : World} {hv bv lv : Value} {h : List Int} {b l : List Atm} {y : Int} (sh : SlI w hv h) (sb : SlA w bv b) (sl : SlA w lv l) (hy : (Lit.int .i64 y).wf = true) : Calls Try.prog 3 #[.agg #[hv, bv], lv, .int .i64 y] w (Ret w (.bool true)) := by
  refine f3_calls _ _ _ ?_
  refine ⟨_, rfl, fun w1 hw1 w3 hw3 => ?_⟩
  have g1 := alloc_grow hw1
  have g3 := alloc_grow hw3
  have s1 := alloc_size hw1
  have s3 := alloc_size hw3
  have g03 := g1.trans g3
  have k0 := boxc hw1 0 hv rfl
  have k1 := boxc hw1 1 bv rfl
  have bx := Box.new hw3
  refine ⟨[_, _], rfl, two (g3.cell k0) (g3.cell k1), (ofO_c (sh.grow g03) (sb.gr g03)).mono ?_⟩
  rintro e w5 ⟨hv', bv', ps, rfl, oh, nb, hps, g5, hsep⟩
  refine ⟨_, rfl, fun w8 hw8 => RecV.init (cs := [hv', bv']) hw8 rfl (by
    intro u hu
    simp at hu
    rcases hu with rfl | rfl
    · exact (Own.one oh).2
    · exact (Own.one nb.own).2) fun w9 g9 s9 hR => ?_⟩
  have g39 := g5.trans g9
  have bx9 := bx.grow g39
  obtain ⟨d, hd, ed⟩ := byD y
  refine ⟨_, bx9.cell, by omega, ⟨_, bx9.cell⟩, bx9.free, fun w12 hw12 => ?_⟩
  rw [ed] at hw12
  have f12 := set_fr hw12
  have hs5 := g5.size
  have f12' : Fr (fun k => k = w1.heap.size) w9 w12 := f12
  have bx12 := bx9.set hw12
  have ohl : ∀ k, hv'.ownBlock = some k → w3.heap.size ≤ k ∧ k < w5.heap.size := fun k hk => Own.lt oh hk
  have nbl : ∀ k, bv'.ownBlock = some k → w3.heap.size ≤ k ∧ k < w5.heap.size := fun k hk => Own.lt nb.own hk
  have pbl : ∀ p ∈ ps, ∀ k, p.1.ownBlock = some k → w3.heap.size ≤ k ∧ k < w5.heap.size := fun p hp k hk => Own.lt (nb.args p hp) hk
  have hR12 : RecV w12 w5.heap.size [hv', bv'] := hR.fr f12' (by omega)
  have oh12 : OwnI w12 w3.heap.size hv' (h.take 9) := Own.fr (Own.grow oh g9) f12' fun k hk e => by have := ohl k hk; omega
  have nb12 : Nest w12 w3.heap.size bv' ps := (nb.grow g9).fr f12' (fun k hk e => by have := nbl k hk; omega) fun p hp k hk e => by have := pbl p hp k hk; omega
  have g0_12 : Grow w1 w12 := (g3.trans g39).fr f12' fun i hi e => by omega
  refine ⟨_, hR12.cell (j := 0) rfl, (Own.slI oh12).ln ?_⟩
  refine ⟨fun t w' => ∃ k : Nat, t = k ∧ k ≤ (h.take 9).length ∧ OwnI w' w3.heap.size hv' (((h.take 9).take k).map (trn d) ++ (h.take 9).drop k) ∧ Fr (fun i => hv'.ownBlock = some i) w12 w', fun t _ => (h.take 9).length - t.toNat, ⟨0, rfl, by omega, by simpa using oh12, Fr.refl _ _⟩, ?_⟩
  rintro - t w21 ⟨k, rfl, hk, oh21, fh21⟩
  have notO : ∀ {w'}, Fr (fun i => hv'.ownBlock = some i) w12 w' → RecV w' w5.heap.size [hv', bv'] := fun hf => hR12.fr hf fun e => by have := ohl _ e; omega
  have bxH : ∀ {w'}, Fr (fun i => hv'.ownBlock = some i) w12 w' → Box w' w1.heap.size (.int .i64 (d : Int)) := fun hf => bx12.fr hf fun e => by have := ohl _ e; omega
  refine condD (fun hlt => ?_) fun hge => ?_
  · have hkl : k < (h.take 9).length := by omega
    have hkl2 : k < (((h.take 9).take k).map (trn d) ++ (h.take 9).drop k).length := by rw [len_trnL]; exact hkl
    refine (Own.slI oh21).rd rfl hkl2 fun m => ?_
    rw [get_trn d _ hkl]
    have gm : Grow w21 (dr w21 m) := (Grow.refl w21).dr m
    have leaf : ∀ {E}, Grow w21 E → ∃ (a : Addr) (n c : Nat), hv' = Value.slice (some a) n c ∧ ((0 : Int) ≤ (k : Int) ∧ (k : Int) < (n : Int)) ∧ (∃ old, E.cell? (a.add (Int.toNat (k : Int) * 1)) = some old) ∧ E.frozen? (a.add (Int.toNat (k : Int) * 1)) = false ∧ ∀ w', w' = E.setCell (a.add (Int.toNat (k : Int) * 1)) (.int .i64 (trn d (h.take 9)[k])) → inR ((k : Int) + 1) ∧ ((∃ k' : Nat, (k : Int) + 1 = k' ∧ k' ≤ (h.take 9).length ∧ OwnI w' w3.heap.size hv' (((h.take 9).take k').map (trn d) ++ (h.take 9).drop k') ∧ Fr (fun i => hv'.ownBlock = some i) w12 w') ∧ (h.take 9).length - Int.toNat ((k : Int) + 1) < (h.take 9).length - Int.toNat (k : Int)) := fun {E} g => by
      refine ownPut (Own.grow oh21 g) rfl hkl2 fun w' ho hf => ⟨by unfold inR; have := (Own.slI oh21).len_le; omega, ⟨k + 1, by omega, by omega, ?_, (fh21.trans (Fr.of_grow g)).trans hf⟩, by omega⟩
      rw [set_trn d _ hkl] at ho
      exact ho
    have tc : ∀ {E x}, Grow w21 E → Calls Try.prog 7 #[.int .i64 x, .pointer (some ⟨w1.heap.size, 0, none⟩)] E (Ret E (.int .i64 (trn d x))) := fun g => turn_c hd (g.cell (bxH fh21).cell)
    refine ⟨⟨_, ((notO fh21).grow gm).cell (j := 0) rfl, _, #[], #[_], rfl, by kernel_rfl, (tc gm).mono ?_⟩, _, #[], #[_], rfl, by kernel_rfl, (tc gm).mono ?_⟩
    · rintro e E ⟨rfl, gE⟩
      exact ⟨_, rfl, leaf (gm.trans gE)⟩
    · rintro e E ⟨rfl, gE⟩
      exact ⟨_, rfl, _, ((notO fh21).grow (gm.trans gE)).cell (j := 0) rfl, leaf (gm.trans gE)⟩
  have hkn : k = (h.take 9).length := by omega
  subst hkn
  rw [List.take_length, List.drop_length, List.append_nil] at oh21
  have hR21 := notO fh21
  have bx21 := bxH fh21
  have nb21 : Nest w21 w3.heap.size bv' ps := nb12.fr fh21 (fun k hk e => (hsep k e).1 hk) fun p hp k hk e => (hsep k e).2 p hp hk
  have g121 : Grow w1 w21 := g0_12.fr fh21 fun i hi e => by have := ohl i e; omega
  refine ⟨_, hR21.cell (j := 1) rfl, SlX.ln nb21.slA ?_⟩
  rw [List.length_map]
  -- the body
  refine ⟨fun t w' => ∃ (k : Nat) (qs : List (Value × Atm)), t = k ∧ k ≤ ps.length ∧ Nest w' w3.heap.size bv' qs ∧ qs.map Prod.fst = ps.map Prod.fst ∧ qs.length = ps.length ∧ (∀ i (hi : i < qs.length) (hi' : i < ps.length), qs[i].2 = if i < k then trnA d ps[i].2 else ps[i].2) ∧ Fr (fun i => ∃ p ∈ ps, p.1.ownBlock = some i) w21 w', fun t _ => ps.length - t.toNat, ⟨0, ps, rfl, by omega, nb21, rfl, rfl, fun i hi _ => by rw [if_neg (by omega)], Fr.refl _ _⟩, ?_⟩
  rintro - t w57 ⟨k, qs, rfl, hk, nq, eqf, eql, eqs, fb57⟩
  have recB : ∀ {w'}, Fr (fun i => ∃ p ∈ ps, p.1.ownBlock = some i) w21 w' → RecV w' w5.heap.size [hv', bv'] := fun hf => hR21.fr hf fun ⟨p, hp, e⟩ => by have := pbl p hp _ e; omega
  have bxB : ∀ {w'}, Fr (fun i => ∃ p ∈ ps, p.1.ownBlock = some i) w21 w' → Box w' w1.heap.size (.int .i64 (d : Int)) := fun hf => bx21.fr hf fun ⟨p, hp, e⟩ => by have := pbl p hp _ e; omega
  have memf : ∀ i (hi : i < qs.length), ∃ p ∈ ps, p.1 = qs[i].1 := fun i hi => by
    have : qs[i].1 ∈ ps.map Prod.fst := eqf ▸ List.mem_map.2 ⟨qs[i], List.getElem_mem hi, rfl⟩
    obtain ⟨p, hp, e⟩ := List.mem_map.1 this
    exact ⟨p, hp, e⟩
  refine condD (fun hlt => ?_) fun hge => ?_
  · have hkp : k < ps.length := by omega
    have hkq : k < qs.length := by omega
    refine Nest.loc nq rfl hkq rfl fun w63 g63 s63 c0 c1 => ?_
    obtain ⟨u, hu⟩ : ∃ u, u = qs[k].1 := ⟨_, rfl⟩
    obtain ⟨xs, hxs⟩ : ∃ xs, xs = ps[k].2.2 := ⟨_, rfl⟩
    have eqk : qs[k].2 = ps[k].2 := by
      have := eqs k hkq hkp
      rwa [if_neg (by omega)] at this
    have ou : OwnI w63 w3.heap.size u xs := by
      have := Own.grow (nq.args _ (List.getElem_mem hkq)) g63
      rw [eqk, ← hxs, ← hu] at this
      exact this
    rw [← hu] at c1
    obtain ⟨p0, hp0, ep0⟩ := memf k hkq
    rw [← hu] at ep0
    refine ⟨_, c1, (Own.slI ou).ln ?_⟩
    refine ⟨fun t w' => ∃ j : Nat, t = j ∧ j ≤ xs.length ∧ OwnI w' w3.heap.size u ((xs.take j).map (trn d) ++ xs.drop j) ∧ Fr (fun i => u.ownBlock = some i) w63 w', fun t _ => xs.length - t.toNat, ⟨0, rfl, by omega, by simpa using ou, Fr.refl _ _⟩, ?_⟩
    rintro - t w73 ⟨j, rfl, hj, ou73, fu73⟩
    have ful : ∀ i, u.ownBlock = some i → w3.heap.size ≤ i ∧ i < w5.heap.size := fun i hi => pbl p0 hp0 i (ep0 ▸ hi)
    have h557 : w5.heap.size ≤ w57.heap.size := by
      have a1 := g9.size
      have a2 := f12.size
      have a3 := fh21.size
      have a4 := fb57.size
      omega
    refine condD (fun hlt2 => ?_) fun hge2 => ?_
    · have hjl : j < xs.length := by omega
      have hjl2 : j < ((xs.take j).map (trn d) ++ xs.drop j).length := by rw [len_trnL]; exact hjl
      refine (Own.slI ou73).rd rfl hjl2 fun m => ?_
      rw [get_trn d _ hjl]
      have gm : Grow w73 (dr w73 m) := (Grow.refl w73).dr m
      have hx := (Own.slI ou73).len_le
      rw [len_trnL] at hx
      have leaf : ∀ {E}, Grow w73 E → ∃ (a : Addr) (n c : Nat), u = Value.slice (some a) n c ∧ ((0 : Int) ≤ (j : Int) ∧ (j : Int) < (n : Int)) ∧ (∃ old, E.cell? (a.add (Int.toNat (j : Int) * 1)) = some old) ∧ E.frozen? (a.add (Int.toNat (j : Int) * 1)) = false ∧ ∀ w', w' = E.setCell (a.add (Int.toNat (j : Int) * 1)) (.int .i64 (trn d xs[j])) → inR ((j : Int) + 1) ∧ ((∃ j' : Nat, (j : Int) + 1 = j' ∧ j' ≤ xs.length ∧ OwnI w' w3.heap.size u ((xs.take j').map (trn d) ++ xs.drop j') ∧ Fr (fun i => u.ownBlock = some i) w63 w') ∧ xs.length - Int.toNat ((j : Int) + 1) < xs.length - Int.toNat (j : Int)) := fun {E} g => by
        refine ownPut (Own.grow ou73 g) rfl hjl2 fun w' ho hf => ⟨by unfold inR; omega, ⟨j + 1, by omega, by omega, ?_, (fu73.trans (Fr.of_grow g)).trans hf⟩, by omega⟩
        rw [set_trn d _ hjl] at ho
        exact ho
      have cell1 : ∀ {E}, Grow w73 E → E.cell? (Addr.add ⟨w57.heap.size, 0, none⟩ 1) = some u := fun g => g.cell (fu73.cell c1 fun e => by
        rw [add_block] at e
        have e : u.ownBlock = some w57.heap.size := e
        have := ful _ e
        omega)
      have bx73 : Box w73 w1.heap.size (.int .i64 (d : Int)) := ((bxB fb57).grow g63).fr fu73 fun e => by have := ful _ e; omega
      have tc : ∀ {E x}, Grow w73 E → Calls Try.prog 7 #[.int .i64 x, .pointer (some ⟨w1.heap.size, 0, none⟩)] E (Ret E (.int .i64 (trn d x))) := fun g => turn_c hd (g.cell bx73.cell)
      refine ⟨⟨_, cell1 gm, _, #[], #[_], rfl, by kernel_rfl, (tc gm).mono ?_⟩, _, #[], #[_], rfl, by kernel_rfl, (tc gm).mono ?_⟩
      · rintro e E ⟨rfl, gE⟩
        exact ⟨_, rfl, leaf (gm.trans gE)⟩
      · rintro e E ⟨rfl, gE⟩
        exact ⟨_, rfl, _, cell1 (gm.trans gE), leaf (gm.trans gE)⟩
    · have hjn : j = xs.length := by omega
      subst hjn
      rw [List.take_length, List.drop_length, List.append_nil] at ou73
      have hle := SlX.len_le nq.slA
      rw [List.length_map] at hle
      refine ⟨by unfold inR; omega, ⟨k + 1, qs.set k (qs[k].1, (qs[k].2.1, xs.map (trn d))), by omega, by omega, ?_, ?_, by simpa using eql, fun i hi hi' => ?_, ?_⟩, by dsimp only; omega⟩
      · refine Nest.put nq hkq (by rw [← hu]; exact ou73) ?_
        rw [← hu]
        exact (Fr.of_grow g63).trans fu73
      · rw [← eqf, List.map_set]
        apply List.ext_getElem (by simp)
        intro a h1 h2
        rw [List.getElem_set]
        split
        · rename_i e
          subst e
          simp
        · rfl
      · rw [List.getElem_set]
        split
        · rename_i e
          subst e
          rw [if_pos (by omega)]
          show (qs[k].2.1, xs.map (trn d)) = trnA d ps[k].2
          rw [eqk, hxs]
          rfl
        · rename_i e
          rw [eqs i (by simpa using hi) hi']
          by_cases hik : i < k
          · rw [if_pos hik, if_pos (by omega)]
          · rw [if_neg hik, if_neg (by omega)]
      · exact (fb57.trans (Fr.of_grow g63)).trans (fu73.mono fun i _ e => ⟨p0, hp0, ep0 ▸ e⟩)
  -- all is turned
  have hkn : k = ps.length := by omega
  subst hkn
  have eb : qs.map Prod.snd = trnB d (trB b) := by
    rw [← hps]
    unfold trnB
    rw [List.map_map]
    apply List.ext_getElem (by simpa using eql)
    intro i h1 h2
    have h1' : i < qs.length := by simpa using h1
    have h2' : i < ps.length := by simpa using h2
    rw [List.getElem_map, List.getElem_map, eqs i h1' h2', if_pos h2']
    rfl
  have hR57 := recB fb57
  have g157 : Grow w1 w57 := g121.fr fb57 fun i hi ⟨p, hp, e⟩ => by have := pbl p hp i e; omega
  have g057 := g1.trans g157
  have oh57 : SlI w57 hv' ((h.take 9).map (trn d)) := Own.slI (Own.fr oh21 fb57 fun k hk ⟨p, hp, e⟩ => (hsep k hk).2 p hp e)
  have ob57 : OwnA w57 w3.heap.size bv' (trnB d (trB b)) := by rw [← eb]; exact nq.ownX
  have aw : ∀ {E : World}, Grow w E → Calls Try.prog 13 #[] E fun e w' => ∃ t : Bool, e = .returned (.bool t) ∧ Ret w (.bool true) (.returned (.bool t)) w' := fun g => awake_c.mono (by
    rintro e w' ⟨rfl, g'⟩
    exact ⟨_, rfl, rfl, g.trans g'⟩)
  refine ⟨[_, _], rfl, two (g157.cell k0) (g157.cell k1), (ofS_c (sh.grow g057) (sb.gr g057)).mono ?_⟩
  rintro e w102 ⟨ha, ba, rfl, sa, ta, g102⟩
  refine ⟨_, rfl, (factsS_c (sl.gr (g057.trans g102))).mono ?_⟩
  rintro e w105 ⟨fa, rfl, sfa, g105⟩
  refine ⟨_, rfl, (results_o (sa.grow g105) (ta.gr g105) sfa).mono ?_⟩
  rintro e w108 ⟨va, rfl, svaO, g108⟩
  have h5_105 : w5.heap.size ≤ w105.heap.size := by
    have a1 := g9.size
    have a2 := f12.size
    have a3 := fh21.size
    have a4 := fb57.size
    have a5 := g102.size
    have a6 := g105.size
    omega
  have g57_108 := (g102.trans g105).trans g108
  rw [resO_tr] at svaO ⊢
  have sva : SlL w108 va _ := svaO.slX
  refine ⟨_, _, rfl, fun m => factsTwo (l := l) (sl.gr (g057.trans g57_108)) (fun g => two (((hR57.grow g57_108).grow g).cell (j := 0) rfl) (((hR57.grow g57_108).grow g).cell (j := 1) rfl)) (fun fb E sfb gE => ?_) m⟩
  have g57E := g57_108.trans gE
  have ob57s : SlA w57 bv' (trnB d (trB b)) := ob57.slX
  refine (results3_c (oh57.grow g57E) (ob57s.gr g57E) sfb).mono ?_
  rw [resO_trn hd, resO_tr]
  rintro e w117 ⟨vb, rfl, svb, g117⟩
  have g57_117 := g57E.trans g117
  refine ⟨_, _, rfl, [_, _], rfl, two ((g157.trans g57_117).cell k0) ((g157.trans g57_117).cell k1), (ofS_c (sh.grow (g057.trans g57_117)) (sb.gr (g057.trans g57_117))).mono ?_⟩
  rintro e w122 ⟨hc, bc, rfl, sc, tc, g122⟩
  refine ⟨_, rfl, (rest_c sc tc).mono ?_⟩
  rintro e w125 ⟨hR1, g125⟩
  have g57_125 := (g57_117.trans g122).trans g125
  have E1 : ∃ n1 e1 : Int, e = .returned (.tuple #[.int .i64 n1, .int .i64 e1]) ∧ (okQ h b = false ∧ n1 = 0 ∧ e1 = 2 ∨ okQ h b = true ∧ ∃ l2 p2, n1 = (restV l2 : Nat) ∧ e1 = 0 ∧ EarsR (trB b).length (2 ^ (trB b).length - 1) (varsOf (trB b)) (List.replicate (trB b).length (-1)) l2 p2 ∧ l2 < 2 ^ (trB b).length) := by
    rw [okQ_tr] at hR1
    rcases hR1 with ⟨h1, rfl⟩ | ⟨h1, l2, p2, rfl, h2, h3⟩
    · exact ⟨_, _, rfl, .inl ⟨h1, rfl, rfl⟩⟩
    · exact ⟨_, _, rfl, .inr ⟨h1, l2, p2, rfl, rfl, h2, h3⟩⟩
  obtain ⟨n1, e1, rfl, hR1'⟩ := E1
  refine ⟨_, _, rfl, [_, _], rfl, two ((hR57.grow g57_125).cell (j := 0) rfl) ((hR57.grow g57_125).cell (j := 1) rfl), (rest_c (oh57.grow g57_125) (ob57s.gr g57_125)).mono ?_⟩
  rintro e w130 ⟨hR2, g130⟩
  have g57_130 := g57_125.trans g130
  have E2 : e = .returned (.tuple #[.int .i64 n1, .int .i64 e1]) := by
    rw [okQ_trn hd, okQ_tr] at hR2
    rcases hR1' with ⟨h1, rfl, rfl⟩ | ⟨h1, l2, p2, rfl, rfl, h2, h3⟩
    · rcases hR2 with ⟨-, rfl⟩ | ⟨h9, -⟩
      · rfl
      · rw [h1] at h9; cases h9
    · rcases hR2 with ⟨h9, -⟩ | ⟨-, l3, p3, rfl, h4, h5⟩
      · rw [h1] at h9; cases h9
      · have el : (trnB d (trB b)).length = (trB b).length := by simp [trnB]
        rw [el] at h4
        have hb := okB_term (h := h.take 9) (b := trB b) (by rw [okQ_tr]; exact h1)
        obtain ⟨rfl, rfl⟩ := (EarsR.ren hd h2 (by simp [varsOf]) (ren_init hd _ hb)).det h4
        rfl
  obtain rfl := E2
  refine ⟨_, _, rfl, cF (by simp) ((rows_c (sva.gr ((((gE.trans g117).trans g122).trans g125).trans g130)) (svb.gr ((g122.trans g125).trans g130))).mono ?_)⟩
  rintro e w134 ⟨rfl, g134⟩
  have g57_134 := g57_130.trans g134
  refine ⟨_, rfl, cF (by simp) (cF (by simp) (cF (by simp) ⟨_, (hR57.grow g57_134).cell (j := 1) rfl, (reverseA_c (OwnX.grow ob57 g57_134)).mono ?_⟩))⟩
  rintro e w138 ⟨rfl, oR, fR⟩
  have hR138 : RecV w138 w5.heap.size [hv', bv'] := (hR57.grow g57_134).fr fR fun e => by have := nbl _ e.symm; omega
  have oh138 : SlI w138 hv' ((h.take 9).map (trn d)) := by
    have o21 : OwnI w57 w3.heap.size hv' ((h.take 9).map (trn d)) := Own.fr oh21 fb57 fun k hk ⟨p, hp, e⟩ => (hsep k hk).2 p hp e
    exact Own.slI (Own.fr (Own.grow o21 g57_134) fR fun k hk e => (hsep k hk).1 e.symm)
  have ob138 : SlA w138 bv' (trnB d (trB b)).reverse := oR.slX
  have g1_138 : Grow w1 w138 := (g157.trans g57_134).fr fR fun i hi e => by have := nbl i e.symm; omega
  have g0_138 := g1.trans g1_138
  have g108_134 := (((((gE.trans g117).trans g122).trans g125).trans g130).trans g134)
  refine ⟨rfl, fun m => factsTwo (l := l) (sl.gr g0_138) (fun g => two ((hR138.grow g).cell (j := 0) rfl) ((hR138.grow g).cell (j := 1) rfl)) (fun fc E2 sfc gE2 => ?_) m⟩
  refine (results3_c (oh138.grow gE2) (ob138.gr gE2) sfc).mono ?_
  rintro e w145 ⟨vc, rfl, svc, g145⟩
  refine ⟨_, _, rfl, [_, _], rfl, two ((hR138.grow (gE2.trans g145)).cell (j := 0) rfl) ((hR138.grow (gE2.trans g145)).cell (j := 1) rfl), (rest_c (oh138.grow (gE2.trans g145)) (ob138.gr (gE2.trans g145))).mono ?_⟩
  rintro e w150 ⟨hR3, g150⟩
  have g0_150 := g0_138.trans ((gE2.trans g145).trans g150)
  have E3 : ∃ n3 : Int, e = .returned (.tuple #[.int .i64 n3, .int .i64 e1]) ∧ (n1 = 0 ↔ n3 = 0) := by
    rw [okQ_rev, okQ_trn hd, okQ_tr] at hR3
    rcases hR1' with ⟨h1, rfl, rfl⟩ | ⟨h1, l2, p2, rfl, rfl, h2, h3⟩
    · rcases hR3 with ⟨-, rfl⟩ | ⟨h9, -⟩
      · exact ⟨_, rfl, Iff.rfl⟩
      · rw [h1] at h9; cases h9
    · rcases hR3 with ⟨h9, -⟩ | ⟨-, l3, p3, rfl, h4, h5⟩
      · rw [h1] at h9; cases h9
      · have hb := okB_term (h := h.take 9) (b := trB b) (by rw [okQ_tr]; exact h1)
        have el : (trnB d (trB b)).length = (trB b).length := by simp [trnB]
        rw [List.length_reverse] at h4 h5
        have h6 := EarsR.ren hd h2 (by simp [varsOf]) (ren_init hd _ hb)
        rw [← el] at h6 h3
        have ok2 : okQ ((h.take 9).map (trn d)) (trnB d (trB b)) = true := by rw [okQ_trn hd, okQ_tr]; exact h1
        have := rest_rev ok2 h6 h3 h4 h5
        refine ⟨_, rfl, ?_⟩
        omega
  obtain ⟨n3, rfl, hn3⟩ := E3
  have hz : (decide (n1 = 0) == decide (n3 = 0)) = true := by
    rw [beq_iff_eq, decide_eq_decide]
    exact hn3
  have tail : ∀ {E}, Grow w E → condP (decide (e1 = e1)) (condP (decide (n1 = 0) == decide (n3 = 0)) (Calls Try.prog 13 #[] E fun e w' => ∃ t : Bool, e = .returned (.bool t) ∧ Ret w (.bool true) (.returned (.bool t)) w') (Ret w (.bool true) (.returned (.bool false)) E)) (Ret w (.bool true) (.returned (.bool false)) E) := fun g => cT (decide_eq_true rfl) (cT hz (aw g))
  refine ⟨_, _, rfl, condD (fun _ => tail g0_150) fun h3 => condD (fun _ => tail g0_150) fun h4 => ?_⟩
  have hres := resO_rev ((h.take 9).map (trn d)) (trnB d (trB b)) (trF l)
  rw [resO_trn hd, resO_tr] at hres
  rcases hres with hr | hr | hr
  · exact absurd hr h3
  · exact absurd hr h4
  rw [hr] at svc ⊢
  have fin := g108_134
  refine cT (decide_eq_true rfl) ((rows_c (L := (resO h b l).2) (M := (resO h b l).2) ?_ (svc.gr g150)).mono ?_)
  · have s134 := OwnX.grow svaO g108_134
    have s138 : SlL w138 va _ := (OwnX.fr s134 fR (fun k e => by have := (nbl k e.symm).2; show k < w105.heap.size; omega) fun k hk e => by
      have h1 := (s134.lt hk).1
      have := (nbl k e.symm).2
      omega).slX
    exact s138.gr ((gE2.trans g145).trans g150)
  · rintro e w160 ⟨rfl, g160⟩
    exact ⟨_, rfl, cT (by simp) (tail (g0_150.trans g160))⟩
end Go.Proofs.Ytddpjdlhgggbkaa
