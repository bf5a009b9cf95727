/- The statement MatchReduced, as a contract. No condition. -/
import Derived.Test.YtjkphmbjdleppaaMu
namespace Go.Proofs.Ytjkphmbjdleppaa
open Go Go.RowKit VC
set_option linter.unusedSimpArgs false
set_option linter.unusedVariables false

theorem red1_c {w : World} {r s : Int} {t u : Value} {xs ys : List Int} {q : Addr} (h0 : w.cell? (Addr.add q 0) = some (.int .i64 r)) (h1 : w.cell? (Addr.add q 1) = some t) (ht : SlI w t xs) (hu : SlI w u ys) : Calls Try.prog 33 #[.agg #[.int .i64 s, u], .pointer (some q)] w (Ret w (.bool (decide (((r, xs) : Atm) = (s, ys))))) := by
  refine f33_calls _ _ ?_
  refine ⟨_, rfl, fun w1 hw1 => ?_⟩
  have g1 := alloc_grow hw1
  refine ⟨r, g1.cell h0, s, boxc hw1 0 _ rfl, condD (fun h => ?_) fun h => ⟨?_, g1⟩⟩
  · refine ⟨t, g1.cell h1, u, boxc hw1 1 _ rfl, (equal_c (ht.grow g1) (hu.grow g1)).mono ?_⟩
    rintro e w2 ⟨rfl, g2⟩
    refine ⟨_, rfl, ?_, g1.trans g2⟩
    congr 2
    rw [decide_eq_decide, Prod.mk.injEq]
    exact ⟨fun e => ⟨h, e⟩, fun e => e.2⟩
  · congr 2
    symm
    rw [decide_eq_false_iff_not, Prod.mk.injEq]
    exact fun e => h e.1
theorem red2_c {w : World} {r s : Int} {t u : Value} {xs ys : List Int} {q : Addr} (h0 : w.cell? (Addr.add q 0) = some (.int .i64 r)) (h1 : w.cell? (Addr.add q 1) = some t) (ht : SlI w t xs) (hu : SlI w u ys) : Calls Try.prog 34 #[.agg #[.int .i64 s, u], .pointer (some q)] w (Ret w (.bool (decide (((r, xs) : Atm) = (s, ys))))) := by
  refine f34_calls _ _ ?_
  refine ⟨_, rfl, fun w1 hw1 => ?_⟩
  have g1 := alloc_grow hw1
  refine ⟨r, g1.cell h0, s, boxc hw1 0 _ rfl, condD (fun h => ?_) fun h => ⟨?_, g1⟩⟩
  · refine ⟨t, g1.cell h1, u, boxc hw1 1 _ rfl, (equal_c (ht.grow g1) (hu.grow g1)).mono ?_⟩
    rintro e w2 ⟨rfl, g2⟩
    refine ⟨_, rfl, ?_, g1.trans g2⟩
    congr 2
    rw [decide_eq_decide, Prod.mk.injEq]
    exact ⟨fun e => ⟨h, e⟩, fun e => e.2⟩
  · congr 2
    symm
    rw [decide_eq_false_iff_not, Prod.mk.injEq]
    exact fun e => h e.1
/-! ## All together -/
def addL (acc : List Atm) (x : Atm) : List Atm := if x ∈ acc then acc else acc ++ [x]
theorem mem_addL {acc : List Atm} {x z : Atm} : z ∈ addL acc x ↔ z ∈ acc ∨ z = x := by
  unfold addL
  split
  · rename_i h
    exact ⟨.inl, fun h2 => h2.elim id fun e => e ▸ h⟩
  · simp
theorem nodup_addL {acc : List Atm} {x : Atm} (h : acc.Nodup) : (addL acc x).Nodup := by
  unfold addL
  split
  · exact h
  · rename_i hn
    refine List.pairwise_append.2 ⟨h, List.pairwise_singleton _ _, fun a ha b hb => ?_⟩
    have : b = x := by simpa using hb
    subst this
    exact fun e => hn (e ▸ ha)
theorem mem_folds {l acc : List Atm} {z : Atm} : z ∈ l.foldl addL acc ↔ z ∈ acc ∨ z ∈ l := by
  induction l generalizing acc with
  | nil => simp
  | cons x r ih =>
    rw [List.foldl_cons, ih, mem_addL, List.mem_cons]
    exact or_assoc
theorem nodup_folds {l acc : List Atm} (h : acc.Nodup) : (l.foldl addL acc).Nodup := by
  induction l generalizing acc with
  | nil => exact h
  | cons x r ih => exact ih (nodup_addL h)
theorem srt_ne {l : List Atm} : (srtF l).length = 0 ↔ l.length = 0 := by
  rw [List.length_eq_zero_iff, List.length_eq_zero_iff]
  constructor
  · intro h
    cases l with
    | nil => rfl
    | cons a r =>
      have : a ∈ srtF (a :: r) := (mem_srt key_A).2 (List.mem_cons_self ..)
      rw [h] at this
      cases this
  · rintro rfl; rfl
theorem matchReduced_c {w : World} {hv bv lv : Value} {h : List Int} {b l : List Atm} (hh : SlI w hv h) (hb : SlA w bv b) (hl : SlA w lv l) : Calls Try.prog 7 #[.agg #[hv, bv], lv] w (Ret w (.bool true)) := by
  refine f7_calls _ _ ?_
  refine ⟨_, rfl, fun w1 hw1 => ?_⟩
  have g1 := alloc_grow hw1
  have k0 := boxc hw1 0 hv rfl
  have k1 := boxc hw1 1 bv rfl
  refine ⟨[_, _], rfl, two k0 k1, (ofS_c (hh.grow g1) (hb.gr g1)).mono ?_⟩
  rintro e w4 ⟨ha, ba, rfl, oha, oba, g4⟩
  refine ⟨_, rfl, (factsS_c (hl.gr (g1.trans g4))).mono ?_⟩
  rintro e w7 ⟨la, rfl, ola, g7⟩
  refine ⟨_, rfl, (reduce_c (oha.grow g7) (oba.gr g7) ola).mono ?_⟩
  rintro e w10 ⟨rv, rfl, srv, g10⟩
  have g110 := (g4.trans g7).trans g10
  refine ⟨_, _, rfl, [_, _], rfl, two (g110.cell k0) (g110.cell k1), (ofS_c (hh.grow (g1.trans g110)) (hb.gr (g1.trans g110))).mono ?_⟩
  rintro e w15 ⟨hc, bc, rfl, ohc, obc, g15⟩
  refine ⟨_, rfl, (factsS_c (hl.gr ((g1.trans g110).trans g15))).mono ?_⟩
  rintro e w18 ⟨lc, rfl, olc, g18⟩
  refine ⟨_, rfl, (results_c (ohc.grow g18) (obc.gr g18) olc).mono ?_⟩
  rintro e w21 ⟨va, rfl, sva, g21⟩
  have g121 := g110.trans ((g15.trans g18).trans g21)
  refine ⟨_, _, rfl, [_, _], rfl, two (g121.cell k0) (g121.cell k1), (ofS_c (hh.grow (g1.trans g121)) (hb.gr (g1.trans g121))).mono ?_⟩
  rintro e w26 ⟨hd, bd, rfl, ohd, obd, g26⟩
  refine ⟨_, rfl, (factsS_c (hl.gr ((g1.trans g121).trans g26))).mono ?_⟩
  rintro e w29 ⟨ld, rfl, old, g29⟩
  refine ⟨_, rfl, (count_c (ohd.grow g29) (obd.gr g29) old).mono ?_⟩
  rintro e w32 ⟨rfl, g32⟩
  have g132 := g121.trans ((g26.trans g29).trans g32)
  have aw : ∀ {E : World}, Grow w E → Calls Try.prog 20 #[] E fun e w' => ∃ t : Bool, e = .returned (.bool t) ∧ Ret w (.bool true) (.returned (.bool t)) w' := fun g => awake_c.mono (by
    rintro e w' ⟨rfl, g'⟩
    exact ⟨_, rfl, rfl, g.trans g'⟩)
  have er : (redO (h.take 9) (trB b) (trF l)).1 = (askO (h.take 9) (trB b) (trF l)).1 := by
    unfold redO
    split
    · rename_i h0; exact h0.symm
    · rfl
  have es : (resO (h.take 9) (trB b) (trF l)).1 = (askO (h.take 9) (trB b) (trF l)).1 := by
    unfold resO askO
    split
    · split <;> rfl
    · rfl
  refine ⟨_, _, rfl, condP_i (fun h0 => ?_) fun h0 => ?_⟩
  · exact cT (decide_eq_true (by rw [er, es])) (cT (decide_eq_true er) (aw (g1.trans g132)))
  have h0 : (askO (h.take 9) (trB b) (trF l)).1 = 0 := by rw [← er]; simpa using h0
  obtain ⟨q1, f1, r1⟩ := askO_ok h0
  rw [okQ_tr] at q1
  rw [okFs_tr] at f1
  have e1 := (trB_of q1).1
  have e2 := (trB_of q1).2
  have e3 := trF_of f1
  rw [e1, e2, e3] at srv sva h0 r1
  rw [e1, e2, e3]
  obtain ⟨ms, hms⟩ : ∃ ms, ms = (askO h b l).2 := ⟨_, rfl⟩
  rw [← hms] at r1
  have ered : redO h b l = (0, redL b ms) := by rw [redO, if_pos h0, hms]
  have eres : resO h b l = (0, rowsOf h ms) := by
    unfold resO
    rw [q1, f1]
    simp only [Bool.and_self, if_true, r1]
  rw [ered] at srv
  rw [eres] at sva
  rw [eres, h0, ← hms]
  have hM : ms = allM (srtF l) b := (runF_some.1 r1).1
  have hpos := okF_pos f1
  have hT := okB_term q1
  refine ⟨[_, _], rfl, two (g132.cell k0) (g132.cell k1), (refValid_c (hh.grow (g1.trans g132)) (hb.gr (g1.trans g132))).mono ?_⟩
  rintro e w40 ⟨rfl, g40⟩
  have g140 := g132.trans g40
  refine ⟨_, rfl, cF (by rw [q1]; rfl) (cF rfl (cF rfl ?_))⟩
  have hrl : (redL b ms).length = b.length := by simp [redL]
  have srv40 : SlF w40 rv (redL b ms) := srv.gr (((g15.trans g18).trans g21).trans (((g26.trans g29).trans g32).trans g40))
  refine SlX.ln srv40 ⟨bv, g140.cell k1, SlX.ln (hb.gr (g1.trans g140)) (cF (by rw [hrl]; simp) (SlX.ln srv40 ?_))⟩
  have hsub : ∀ i (hi : i < b.length), ∀ x ∈ srtF (ms.map fun m => imgA m b[i]), x.1 = b[i].1 ∧ x ∈ l := fun i hi x hx => by
    obtain ⟨m, hm, rfl⟩ := List.mem_map.1 ((mem_srt key_A).1 hx)
    rw [hM] at hm
    exact ⟨rfl, (mem_srt key_A).1 (((mem_allM (srtF_pos hpos) hT).1 hm).hit _ (List.getElem_mem hi))⟩
  have hll : l.length ≤ 24 := by
    simp only [okFs, Bool.and_eq_true, decide_eq_true_eq] at f1
    exact f1.1
  have hbl := okQ_len q1
  refine ⟨fun all t w' => ∃ i : Nat, t = i ∧ i ≤ b.length ∧ OwnX (fun k => w40.heap.size ≤ k) 2 repA w' w40.heap.size 46 all (((redL b ms).take i).flatten.foldl addL []) ∧ Grow w40 w', fun _ t _ => b.length - t.toNat, ⟨0, rfl, by omega, OwnX.nil _ _ _, Grow.refl _⟩, ?_⟩
  rintro - all t w61 ⟨i, rfl, hi, hall, g61⟩
  have g161 := g140.trans g61
  refine condD (fun hlt => ?_) (fun hge => ?_)
  · have hil : i < b.length := by rw [hrl] at hlt; omega
    have hil' : i < (redL b ms).length := by rw [hrl]; exact hil
    have hLi : (redL b ms)[i] = srtF (ms.map fun m => imgA m b[i]) := by simp [redL]
    refine SlF.rdP srv40 g61 rfl hil' fun sv hsv => ?_
    rw [hLi] at hsv
    obtain ⟨L, hL⟩ : ∃ L, L = srtF (ms.map fun m => imgA m b[i]) := ⟨_, rfl⟩
    have hLx : ∀ x ∈ L, x.1 = b[i].1 ∧ x ∈ l := fun x hx => hsub i hil x (hL ▸ hx)
    have hL0 : L.length = 0 ↔ ms.length = 0 := by rw [hL, srt_ne]; simp
    rw [← hL] at hsv
    obtain ⟨A0, hA0⟩ : ∃ A0, A0 = ((redL b ms).take i).flatten.foldl addL [] := ⟨_, rfl⟩
    have hA1 : ((redL b ms).take (i + 1)).flatten.foldl addL [] = L.foldl addL A0 := by
      rw [List.take_succ_eq_append_getElem hil', List.flatten_append, List.foldl_append, ← hA0, hLi, ← hL]
      simp
    rw [← hA0] at hall
    have hA0n : A0.Nodup := by rw [hA0]; exact nodup_folds List.Pairwise.nil
    have hA0l : ∀ x ∈ A0, x ∈ l := fun x hx => by
      rw [hA0, mem_folds] at hx
      rcases hx with hx | hx
      · cases hx
      · obtain ⟨M, hM', hx⟩ := List.mem_flatten.1 hx
        have hM' := List.mem_of_mem_take hM'
        obtain ⟨a, ha, rfl⟩ := List.mem_map.1 hM'
        obtain ⟨i', hi', rfl⟩ := List.mem_iff_getElem.1 ha
        exact (hsub i' hi' x hx).2
    have hLl := SlX.len_le hsv
    refine SlX.ln hsv (cF ?_ (SlX.ln hsv ⟨fun all t w' => ∃ j : Nat, t = j ∧ j ≤ L.length ∧ OwnX (fun k => w40.heap.size ≤ k) 2 repA w' w40.heap.size 46 all ((L.take j).foldl addL A0) ∧ Grow w40 w', fun _ t _ => L.length - t.toNat, ⟨0, rfl, by omega, by simpa using hall, g61⟩, ?_⟩))
    · by_cases hz : L.length = 0
      · have hz2 := hL0.1 hz
        simp [hz, hz2]
      · have hz2 : ¬ ms.length = 0 := fun e => hz (hL0.2 e)
        have a1 : decide ((L.length : Int) = 0) = false := decide_eq_false (by omega)
        have a2 : decide ((ms.length : Int) = 0) = false := decide_eq_false (by omega)
        rw [a1, a2]; rfl
    rintro - all2 t w77 ⟨j, rfl, hj, hall2, g77⟩
    refine condD (fun hlt2 => ?_) (fun hge2 => ?_)
    · have hjl : j < L.length := by omega
      obtain ⟨hx1, hx2⟩ := hLx _ (List.getElem_mem hjl)
      refine SlA.locP hsv g77 rfl hjl rfl fun w83 u g83 s83 hu40 c0 c1 => ?_
      have hu : SlI w83 u L[j].2 := hu40.grow (g77.trans g83)
      have g183 := (g140.trans g77).trans g83
      obtain ⟨qa, qn, qc, qe, qb, hq⟩ := SlX.at (K := fun p => w83.cell? (p.add 0) = some (.int .i64 b[i].1)) (hb.gr (g1.trans g183)) (j := (i : Int)) rfl hil (fun p cs _ hcs hr => by
        obtain ⟨u', rfl, _⟩ := hr
        exact hcs 0 _ rfl)
      refine ⟨_, c0, bv, g183.cell k1, qa, qn, qc, qe, qb, b[i].1, hq, cF (by rw [hx1]; simp) ?_⟩
      have cl : ∀ {w'}, Grow w83 w' → SlA w' lv l := fun g => hl.gr ((g1.trans g183).trans g)
      refine ⟨true, fun w92 g92 => (containsFact_c (p := fun y => decide (L[j] = y)) (cl g92) ⟨_, #[], #[_], rfl, by kernel_rfl, fun a ha w' u2 g hu2 => ?_⟩).mono ?_, fun w96 g96 => cF rfl ?_⟩
      · rw [app1]
        exact red1_c (g.cell (g92.cell c0)) (g.cell (g92.cell c1)) ((hu.grow g92).grow g) hu2
      · rintro e w93 ⟨rfl, g93⟩
        have hany : l.any (fun y => decide (L[j] = y)) = true := List.any_eq_true.2 ⟨_, hx2, by simp⟩
        exact ⟨by rw [hany], g93⟩
      obtain ⟨A, hA⟩ : ∃ A, A = (L.take j).foldl addL A0 := ⟨_, rfl⟩
      have hAs : (L.take (j + 1)).foldl addL A0 = addL A L[j] := by
        rw [List.take_succ_eq_append_getElem hjl, List.foldl_append, ← hA]; rfl
      rw [← hA] at hall2
      have hAn : A.Nodup := by rw [hA]; exact nodup_folds hA0n
      have hAl : ∀ x ∈ A, x ∈ l := fun x hx => by
        rw [hA, mem_folds] at hx
        exact hx.elim (hA0l x) fun h => (hLx x (List.mem_of_mem_take h)).2
      have hAlen : A.length ≤ 24 := Nat.le_trans (sub_len hAn hAl) hll
      have hall96 := (hall2.grow g83).grow g96
      refine (containsFact_c (p := fun y => decide (L[j] = y)) hall96.slX ⟨_, #[], #[_], rfl, by kernel_rfl, fun a ha w' u2 g hu2 => ?_⟩).mono ?_
      · rw [app1]
        exact red2_c (g.cell (g96.cell c0)) (g.cell (g96.cell c1)) ((hu.grow g96).grow g) hu2
      rintro e w97 ⟨rfl, g97⟩
      have hall97 := hall96.grow g97
      have g8397 := g96.trans g97
      have g4097 := (g77.trans g83).trans g8397
      refine ⟨_, rfl, condP_i (fun hno => ?_) fun hyes => ?_⟩
      · have hno : L[j] ∉ A := fun hin => by
          have : A.any (fun y => decide (L[j] = y)) = true := List.any_eq_true.2 ⟨_, hin, by simp⟩
          rw [this] at hno
          cases hno
        refine ⟨[_, _], rfl, two (g8397.cell c0) (g8397.cell c1), bs1 el_fact (by omega) (by omega) (cs := #[.int .i64 L[j].1, u]) rfl w97 fun w101 hw101 => ?_⟩
        refine pappX1 el_fact (by omega) (cs := [.int .i64 L[j].1, u]) (y := L[j]) hall97 hw101 ⟨rfl, fun y hy => ?_, fun w' hf => ⟨u, rfl, ?_⟩⟩ g4097.size (by omega) (by omega) ?_
        · simp at hy
          rcases hy with rfl | rfl
          · rfl
          · exact hu.one.2
        · refine hu40.grow (g4097.fr hf fun k hk e => ?_)
          rcases e with e | e
          · have e : w40.heap.size ≤ k := e
            omega
          · have := (hall97.lt e.symm).1; omega
        · intro v2 w104 ho2 hf2 _ _
          refine ⟨by unfold inR; omega, ⟨j + 1, by omega, by omega, ?_, ?_⟩, by dsimp only; omega⟩
          · rw [hAs, addL, if_neg hno]
            exact ho2
          · exact (g4097.trans (alloc_grow hw101)).fr hf2 fun k hk e => by have := (hall97.lt e.symm).1; omega
      · have hin : L[j] ∈ A := by
          have h9 : A.any (fun y => decide (L[j] = y)) = true := by simpa using hyes
          obtain ⟨y, hy, e⟩ := List.any_eq_true.1 h9
          have e : L[j] = y := by simpa using e
          rw [e]; exact hy
        refine ⟨by unfold inR; omega, ⟨j + 1, by omega, by omega, ?_, g4097⟩, by dsimp only; omega⟩
        rw [hAs, addL, if_pos hin]
        exact hall97
    · have hjl : j = L.length := by omega
      subst hjl
      rw [List.take_length] at hall2
      exact ⟨by unfold inR; omega, ⟨i + 1, by omega, by omega, by rw [hA1]; exact hall2, g77⟩, by dsimp only; omega⟩
  · have hil : i = b.length := by rw [hrl] at hge; omega
    subst hil
    rw [← hrl, List.take_length] at hall
    obtain ⟨A, hA⟩ : ∃ A, A = (redL b ms).flatten.foldl addL [] := ⟨_, rfl⟩
    rw [← hA] at hall
    have memA : ∀ x, x ∈ A ↔ ∃ i, ∃ hi : i < b.length, x ∈ srtF (ms.map fun m => imgA m b[i]) := fun x => by
      rw [hA, mem_folds]
      simp only [List.not_mem_nil, false_or, List.mem_flatten, redL, List.mem_map]
      constructor
      · rintro ⟨L, ⟨a, ha, rfl⟩, hx⟩
        obtain ⟨i, hi, rfl⟩ := List.mem_iff_getElem.1 ha
        exact ⟨i, hi, hx⟩
      · rintro ⟨i, hi, hx⟩
        exact ⟨_, ⟨_, List.getElem_mem hi, rfl⟩, hx⟩
    have subA : ∀ x ∈ A, x ∈ l := fun x hx => by
      obtain ⟨i, hi, hx⟩ := (memA x).1 hx
      exact (hsub i hi x hx).2
    have fA : okFs A = true := by
      simp only [okFs, Bool.and_eq_true, decide_eq_true_eq, List.all_eq_true] at f1 ⊢
      refine ⟨Nat.le_trans (sub_len (by rw [hA]; exact nodup_folds List.Pairwise.nil) subA) f1.1, fun x hx => f1.2 x (subA x hx)⟩
    obtain ⟨l', hr', hlen', hrows'⟩ := fewer (h := h) hpos hT subA (fun m hm a ha => by
      obtain ⟨i, hi, rfl⟩ := List.mem_iff_getElem.1 ha
      refine (memA _).2 ⟨i, hi, (mem_srt key_A).2 (List.mem_map_of_mem ?_)⟩
      rw [hM]
      exact (mem_allM (srtF_pos hpos) hT).2 (hm.sub fun a _ h => (mem_srt key_A).2 h)) r1
    have eresA : resO h b A = (0, rowsOf h ms) := by
      unfold resO
      rw [q1, fA]
      simp only [Bool.and_self, if_true, hr', hrows']
    have easkA : askO h b A = (0, l') := by
      unfold askO
      rw [q1, fA]
      simp only [Bool.and_self, if_true, hr']
    refine ⟨[_, _], rfl, two (g161.cell k0) (g161.cell k1), (ofS_c (hh.grow (g1.trans g161)) (hb.gr (g1.trans g161))).mono ?_⟩
    rintro e w106 ⟨h5, b5, rfl, oh5, ob5, g106⟩
    rw [e1] at ob5
    rw [e2] at oh5
    have hallA : SlA w61 all A := hall.slX
    refine ⟨_, rfl, (results_c oh5 ob5 (hallA.gr g106)).mono ?_⟩
    rw [eresA]
    rintro e w109 ⟨vb, rfl, svb, g109⟩
    have g1109 := (g161.trans g106).trans g109
    refine ⟨_, _, rfl, [_, _], rfl, two (g1109.cell k0) (g1109.cell k1), (ofS_c (hh.grow (g1.trans g1109)) (hb.gr (g1.trans g1109))).mono ?_⟩
    rintro e w114 ⟨h6, b6, rfl, oh6, ob6, g114⟩
    rw [e1] at ob6
    rw [e2] at oh6
    refine ⟨_, rfl, (count_c oh6 ob6 (hallA.gr ((g106.trans g109).trans g114))).mono ?_⟩
    rw [easkA]
    rintro e w117 ⟨rfl, g117⟩
    refine ⟨_, _, rfl, cT rfl (cT rfl ?_)⟩
    have gL := (g114.trans g117)
    refine (rows_c (sva.gr ((((g26.trans g29).trans g32).trans (g40.trans g61)).trans ((g106.trans g109).trans gL))) (svb.gr gL)).mono ?_
    rintro e w121 ⟨rfl, g121'⟩
    exact ⟨_, rfl, cT (by simp) (cT (decide_eq_true (by rw [hlen'])) (aw (((g1.trans g1109).trans gL).trans g121')))⟩
end Go.Proofs.Ytjkphmbjdleppaa
