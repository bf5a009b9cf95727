/- Contracts: the reference's results, equal rows, a fact is matched; the copies that the statements make. No condition. -/
import Derived.Test.YtmjpnfapjcfejaaGreatDoorMp
namespace Go.Proofs.YtmjpnfapjcfejaaGreatDoor
open Go Go.RowKit VC
set_option linter.unusedSimpArgs false
set_option linter.unusedVariables false

theorem refCount_c {w : World} {hv bv fv : Value} {h : List Int} {b l : List Atm} (hh : SlI w hv h) (hb : SlA w bv b) (hl : SlA w fv l) : Calls Tryz.prog 43 #[.agg #[hv, bv], fv] w (Ret w (.tuple #[.int .i64 ((askO h b l).2.length : Int), .int .i64 (askO h b l).1])) := by
  refine f43_calls _ _ ?_
  refine ⟨_, rfl, fun w1 hw1 => ?_⟩
  have g1 := alloc_grow hw1
  refine ⟨[_, _], rfl, two (boxc hw1 0 _ rfl) (boxc hw1 1 _ rfl), (refValid_c (hh.grow g1) (hb.gr g1)).mono ?_⟩
  rintro e w4 ⟨rfl, g4⟩
  have g04 := g1.trans g4
  refine ⟨_, rfl, condP_i (fun h1 => ?_) fun h1 => ?_⟩
  · have h1 : okQ h b = false := by simpa using h1
    have e1 : askO h b l = (2, []) := by simp [askO, h1]
    rw [e1]
    exact ⟨rfl, g04⟩
  have h1 : okQ h b = true := by simpa using h1
  refine (refFacts_c (hl.gr g04)).mono ?_
  rintro e w7 ⟨rfl, g7⟩
  have g07 := g04.trans g7
  refine ⟨_, rfl, condP_i (fun h2 => ?_) fun h2 => ?_⟩
  · have h2 : okFs l = false := by simpa using h2
    have e1 : askO h b l = (2, []) := by simp [askO, h1, h2]
    rw [e1]
    exact ⟨rfl, g07⟩
  have h2 : okFs l = true := by simpa using h2
  refine ⟨[_, _], rfl, two ((g4.trans g7).cell (boxc hw1 0 _ rfl)) ((g4.trans g7).cell (boxc hw1 1 _ rfl)), (refMatches_c (hb.gr g07) (hl.gr g07) (okB_term h1) (by have := okQ_len h1; omega) h2).mono ?_⟩
  rintro e w11 ⟨g11, ⟨v, ms, rfl, hr, hs⟩ | ⟨rfl, hr⟩⟩
  · have e1 : askO h b l = (0, ms) := by simp [askO, h1, h2, hr]
    rw [e1]
    exact ⟨_, _, rfl, SlR.ln hs ⟨rfl, g07.trans g11⟩⟩
  · have e1 : askO h b l = (3, []) := by simp [askO, h1, h2, hr]
    rw [e1]
    exact ⟨_, _, rfl, _, _, _, rfl, rfl, g07.trans g11⟩
theorem refResults_c {w : World} {hv bv fv : Value} {h : List Int} {b l : List Atm} (hh : SlI w hv h) (hb : SlA w bv b) (hl : SlA w fv l) : Calls Tryz.prog 66 #[.agg #[hv, bv], fv] w fun e w' => ∃ v, e = .returned (.tuple #[v, .int .i64 (resO h b l).1]) ∧ SlL w' v (resO h b l).2 ∧ Grow w w' := by
  refine f66_calls _ _ ?_
  refine ⟨_, rfl, fun w1 hw1 => ?_⟩
  have g1 := alloc_grow hw1
  refine ⟨[_, _], rfl, two (boxc hw1 0 _ rfl) (boxc hw1 1 _ rfl), (refValid_c (hh.grow g1) (hb.gr g1)).mono ?_⟩
  rintro e w4 ⟨rfl, g4⟩
  have g04 := g1.trans g4
  refine ⟨_, rfl, condP_i (fun h1 => ?_) fun h1 => ?_⟩
  · have h1 : okQ h b = false := by simpa using h1
    have e1 : resO h b l = (2, []) := by simp [resO, h1]
    rw [e1]
    exact ⟨_, rfl, SlX.nil _, g04⟩
  have h1 : okQ h b = true := by simpa using h1
  refine (refFacts_c (hl.gr g04)).mono ?_
  rintro e w7 ⟨rfl, g7⟩
  have g07 := g04.trans g7
  refine ⟨_, rfl, condP_i (fun h2 => ?_) fun h2 => ?_⟩
  · have h2 : okFs l = false := by simpa using h2
    have e1 : resO h b l = (2, []) := by simp [resO, h1, h2]
    rw [e1]
    exact ⟨_, rfl, SlX.nil _, g07⟩
  have h2 : okFs l = true := by simpa using h2
  refine ⟨[_, _], rfl, two ((g4.trans g7).cell (boxc hw1 0 _ rfl)) ((g4.trans g7).cell (boxc hw1 1 _ rfl)), (refMatches_c (hb.gr g07) (hl.gr g07) (okB_term h1) (by have := okQ_len h1; omega) h2).mono ?_⟩
  rintro e w11 ⟨g11, hres⟩
  have g011 := g07.trans g11
  have hhd := okQ_head h1
  have hhl := (okQ_len h1).2.2
  have all : ∃ (v : Value) (ms : List Vals) (z : Int), e = .returned (.tuple #[v, .int .i64 z]) ∧ SlV w11 v ms ∧ ms.length ≤ 20000 ∧ resO h b l = (z, rowsOf h ms) := by
    rcases hres with ⟨v, ms, he, hr, hs⟩ | ⟨he, hr⟩
    · exact ⟨v, ms, 0, he, hs, runF_len hr (okQ_len h1).1, by simp [resO, h1, h2, hr]⟩
    · exact ⟨_, [], 3, he, SlR.nil _, by simp, by simp [resO, h1, h2, hr, rowsOf, srtK]⟩
  obtain ⟨v, ms, z, rfl, hs, hms, hres⟩ := all
  rw [hres]
  refine ⟨_, _, rfl, SlR.ln hs ⟨fun out t w' => ∃ i : Nat, t = i ∧ i ≤ ms.length ∧ SlL w' out (srtL ((ms.take i).map fun m => h.map (ofV m))) ∧ Grow w11 w', fun _ t _ => ms.length - t.toNat, ⟨0, rfl, by omega, SlX.nil _, Grow.refl _⟩, ?_⟩⟩
  rintro - out t w23 ⟨i, rfl, hi, hout, g23⟩
  have g023 := g011.trans g23
  refine condD (fun hlt => ?_) (fun hge => ?_)
  · have hil : i < ms.length := by omega
    refine SlV.loc (SlR.grow hs g23) rfl hil rfl fun w29 g29 s29 hV => ?_
    have g029 := g023.trans g29
    have gb : Grow w1 w29 := ((g4.trans g7).trans g11).trans (g23.trans g29)
    refine ⟨hv, gb.cell (boxc hw1 0 _ rfl), (hh.grow g029).ln ?_⟩
    refine ⟨fun row t w' => ∃ j : Nat, t = j ∧ j ≤ h.length ∧ OwnI w' w29.heap.size row ((h.take j).map (ofV ms[i])) ∧ Fr (fun i => w29.heap.size ≤ i) w29 w', fun _ t _ => h.length - t.toNat, ⟨0, rfl, by omega, by simpa [OwnI] using Own.nil w29 w29.heap.size 3 1, Fr.refl _ _⟩, ?_⟩
    rintro - row t w40 ⟨j, rfl, hj, hrow, hf⟩
    have g40 : Grow w29 w40 := (Grow.refl _).fr hf fun i hi e => by omega
    refine condD (fun hlt2 => ?_) (fun hge2 => ?_)
    · have hjl : j < h.length := by omega
      have hx := hhd _ (List.getElem_mem hjl)
      refine (hh.grow (g029.trans g40)).rd rfl hjl ⟨by omega, ms[i].getD (h[j]).toNat 0, cells8 (hV.grow g40) (by omega), fun w46 hw46 => ?_⟩
      refine papp1 el_int hw46 hrow rfl (by have := g40.size; omega) (by simp; omega) (by omega) ?_
      intro v' w' ho2 hf2 _
      refine ⟨by unfold inR; omega, ⟨j + 1, by omega, by omega, ?_, ?_⟩, by dsimp only; omega⟩
      · rw [List.take_succ_eq_append_getElem hjl, List.map_append]
        have e3 : ofV ms[i] h[j] = ms[i].getD (h[j]).toNat 0 := by rw [ofV, if_neg (by omega)]
        simp only [List.map_cons, List.map_nil, e3]
        unfold OwnI
        rw [List.length_append, List.map_append]
        exact ho2
      · exact hf.trans ((Fr.of_grow (alloc_grow hw46)).trans (hf2.mono fun k _ e => (Own.lt hrow e.symm).1))
    · have hjl : j = h.length := by omega
      subst hjl
      rw [List.take_length] at hrow
      have hL : (srtL ((ms.take i).map fun m => h.map (ofV m))).length ≤ 100000 := by
        have h9 := len_srt (key := id) ((ms.take i).map fun m => h.map (ofV m))
        rw [List.length_map, List.length_take] at h9
        show (srtK id _).length ≤ 100000
        omega
      refine (put_c (hout.gr (g29.trans g40)) (str_srt key_id _) (Own.slI hrow) hL).mono ?_
      rintro e w49 ⟨v', rfl, hv', g49⟩
      refine ⟨v', rfl, by unfold inR; omega, ⟨i + 1, by omega, by omega, ?_, (g23.trans g29).trans (g40.trans g49)⟩, by dsimp only; omega⟩
      rw [List.take_succ_eq_append_getElem hil, List.map_append]
      show SlL w49 v' (srtK id (_ ++ [h.map (ofV ms[i])]))
      rw [srt_app]
      exact hv'
  · have hil : i = ms.length := by omega
    subst hil
    rw [List.take_length] at hout
    exact ⟨out, rfl, hout, g023⟩
/-! ## Equal rows -/
/-! ## A fact is matched -/
theorem slA_one {w w' : World} {r : Int} {u : Value} {xs : List Int} {e : TypeId} (hw : w' = w.alloc (.cells #[.int .i64 r, u] e)) (hu : SlI w' u xs) : SlA w' (.slice (some ⟨w.heap.size, 0, none⟩) 1 1) [(r, xs)] := by
  have hl := Own.lit (B := w.heap.size) (n := 1) (sz := 2) hw (Nat.le_refl _) (by omega) (by simp)
  have := SlX.of_cells (k := 2) (rep := repA) (w := w') (v := .slice (some ⟨w.heap.size, 0, none⟩) 1 1) (ps := [([.int .i64 r, u], (r, xs))]) (fun p hp => by
    obtain rfl : p = ([.int .i64 r, u], (r, xs)) := by simpa using hp
    exact ⟨rfl, u, rfl, hu⟩) (by simpa using hl.slC)
  simpa using this
theorem slI_lit {w w' : World} {cs : Array Value} {xs : List Int} {e : TypeId} (hw : w' = w.alloc (.cells cs e)) (hc : cs.toList = xs.map VC.encI) (hl : xs.length ≤ 1000) : SlI w' (.slice (some ⟨w.heap.size, 0, none⟩) xs.length xs.length) xs := by
  have h := Own.lit (B := w.heap.size) (n := xs.length) (sz := 1) hw (Nat.le_refl _) (by omega) (by
    rw [← Array.length_toList, hc]; simp)
  rw [hc] at h
  exact Own.slI h
theorem awake_val : resO [1] [(2, [-4, 1])] [(2, [4, 8])] = (0, [[8]]) := by kernel_rfl
/-! ## The copies say the same -/
theorem trA_id {a : Atm} (h : a.2.length ≤ 9) : trA a = a := by
  unfold trA
  rw [List.take_of_length_le h]
theorem trA_len {a : Atm} (h : (trA a).2.length ≤ 3) : a.2.length ≤ 3 := by
  unfold trA at h
  simp only [List.length_take] at h
  omega
theorem map_trA {l : List Atm} (h : ∀ a ∈ l, a.2.length ≤ 9) : l.map trA = l := by
  conv => rhs; rw [← List.map_id l]
  exact List.map_congr_left fun a ha => trA_id (h a ha)
theorem trB_of {h : List Int} {b : List Atm} (hq : okQ h b = true) : trB b = b ∧ h.take 9 = h := by
  obtain ⟨h1, h2, h3⟩ := okQ_len hq
  have hb : ∀ a ∈ b, a.2.length ≤ 9 := fun a ha => by
    simp only [okQ, Bool.and_eq_true, List.all_eq_true] at hq
    have := (okA_iff.1 (hq.1.2 a ha)).2.2.2.1
    omega
  exact ⟨by unfold trB; rw [List.take_of_length_le (by omega), map_trA hb], List.take_of_length_le (by omega)⟩
theorem okQ_tr (h : List Int) (b : List Atm) : okQ (h.take 9) (trB b) = okQ h b := by
  rw [Bool.eq_iff_iff]
  constructor
  · intro hq
    have h0 := hq
    obtain ⟨h1, h2, h3⟩ := okQ_len hq
    have hbl : b.length ≤ 5 := by unfold trB at h2; simp at h2; omega
    have hhl : h.length ≤ 4 := by simp at h3; omega
    have hb : ∀ a ∈ b, a.2.length ≤ 9 := fun a ha => by
      simp only [okQ, Bool.and_eq_true, List.all_eq_true] at hq
      have hm : trA a ∈ trB b := List.mem_map_of_mem (by rw [List.take_of_length_le (by omega)]; exact ha)
      have := trA_len (okA_iff.1 (hq.1.2 _ hm)).2.2.2.1
      omega
    have e1 : trB b = b := by unfold trB; rw [List.take_of_length_le (by omega), map_trA hb]
    rwa [e1, List.take_of_length_le (by omega)] at h0
  · intro hq
    obtain ⟨e1, e2⟩ := trB_of hq
    rwa [e1, e2]
theorem trF_of {l : List Atm} (hf : okFs l = true) : trF l = l := by
  simp only [okFs, Bool.and_eq_true, decide_eq_true_eq, List.all_eq_true] at hf
  unfold trF
  rw [List.take_of_length_le (by omega), map_trA fun a ha => by have := (okF_iff.1 (hf.2 a ha)).2.2.2.1; omega]
theorem okFs_tr (l : List Atm) : okFs (trF l) = okFs l := by
  rw [Bool.eq_iff_iff]
  constructor
  · intro hf
    have h0 := hf
    simp only [okFs, Bool.and_eq_true, decide_eq_true_eq, List.all_eq_true] at hf
    have hl : l.length ≤ 24 := by
      have := hf.1
      unfold trF at this; simp at this; omega
    have hb : ∀ a ∈ l, a.2.length ≤ 9 := fun a ha => by
      have hm : trA a ∈ trF l := List.mem_map_of_mem (by rw [List.take_of_length_le (by omega)]; exact ha)
      have := trA_len (okF_iff.1 (hf.2 _ hm)).2.2.2.1
      omega
    have e1 : trF l = l := by unfold trF; rw [List.take_of_length_le (by omega), map_trA hb]
    rwa [e1] at h0
  · intro hf
    rwa [trF_of hf]
theorem askO_tr (h : List Int) (b l : List Atm) : askO (h.take 9) (trB b) (trF l) = askO h b l := by
  unfold askO
  rw [okQ_tr, okFs_tr]
  split
  · rename_i hq
    rw [Bool.and_eq_true] at hq
    rw [(trB_of hq.1).1, trF_of hq.2]
  · rfl
theorem resO_tr (h : List Int) (b l : List Atm) : resO (h.take 9) (trB b) (trF l) = resO h b l := by
  unfold resO
  rw [okQ_tr, okFs_tr]
  split
  · rename_i hq
    rw [Bool.and_eq_true] at hq
    rw [(trB_of hq.1).1, (trB_of hq.1).2, trF_of hq.2]
  · rfl
theorem ofS_c {w : World} {hv v : Value} {h : List Int} {l : List Atm} (hh : SlI w hv h) (hs : SlA w v l) : Calls Tryz.prog 14 #[.agg #[hv, v]] w fun e w' => ∃ hv' v', e = .returned (.agg #[hv', v']) ∧ SlI w' hv' (h.take 9) ∧ SlA w' v' (trB l) ∧ Grow w w' := by
  refine (of_c hh hs).mono ?_
  rintro e w' ⟨a, b, rfl, h1, h2, g, -⟩
  exact ⟨a, b, rfl, Own.slI h1, h2.slX, g⟩
theorem factsS_c {w : World} {v : Value} {l : List Atm} (hs : SlA w v l) : Calls Tryz.prog 13 #[v] w fun e w' => ∃ v', e = .returned v' ∧ SlA w' v' (trF l) ∧ Grow w w' := by
  refine (facts_c hs).mono ?_
  rintro e w' ⟨a, rfl, h1, g⟩
  exact ⟨a, rfl, h1.slX, g⟩
theorem varsL_bit : ∀ {xs : List Int} {i : Nat}, (varsL xs).testBit i = true ↔ (i : Int) ∈ xs
  | [], i => by simp [varsL]
  | x :: r, i => by
    rw [varsL, Nat.testBit_or, Bool.or_eq_true, varsL_bit, List.mem_cons]
    refine or_congr_left ?_
    split
    · rename_i h
      rw [Nat.testBit_two_pow]
      simp; omega
    · simp; omega
theorem varsB_bit : ∀ {b : List Atm} {i : Nat}, (varsB b).testBit i = true ↔ (i : Int) ∈ b.flatMap Prod.snd
  | [], i => by simp [varsB]
  | a :: r, i => by rw [varsB, Nat.testBit_or, Bool.or_eq_true, varsB_bit, varsL_bit, List.flatMap_cons, List.mem_append]
theorem varsB_append (b c : List Atm) : varsB (b ++ c) = varsB b ||| varsB c := by
  induction b with
  | nil => simp [varsB]
  | cons a r ih => rw [List.cons_append, varsB, varsB, ih, Nat.or_assoc]
theorem okQ_app {h g : List Int} {b c : List Atm} (h1 : okQ h b = true) (h2 : okQ g c = true) (hl : (b ++ c).length ≤ 5) : okQ h (b ++ c) = true := by
  simp only [okQ, Bool.and_eq_true, decide_eq_true_eq, List.all_eq_true] at *
  refine ⟨⟨⟨⟨by simp; omega, hl⟩, h1.1.1.2⟩, fun a ha => (List.mem_append.1 ha).elim (h1.1.2 a) (h2.1.2 a)⟩, fun x hx => ?_⟩
  have := h1.2 x hx
  simp only [okH, Bool.and_eq_true, decide_eq_true_eq] at this ⊢
  exact ⟨this.1, by rw [varsB_append, Nat.testBit_or, this.2]; rfl⟩
theorem askO_ok {h : List Int} {b l : List Atm} (h0 : (askO h b l).1 = 0) : okQ h b = true ∧ okFs l = true ∧ runF l b = some (askO h b l).2 := by
  unfold askO at h0 ⊢
  split at h0
  · rename_i hq
    rw [Bool.and_eq_true] at hq
    refine ⟨hq.1, hq.2, ?_⟩
    rw [if_pos (by rw [hq.1, hq.2]; rfl)]
    split at h0
    · rename_i ms hr
      exact hr
    · cases h0
  · cases h0
theorem askO_cases (h : List Int) (b l : List Atm) : (askO h b l).1 = 0 ∨ (askO h b l).1 = 2 ∨ (askO h b l).1 = 3 := by
  unfold askO
  split
  · split
    · exact .inl rfl
    · exact .inr (.inr rfl)
  · exact .inr (.inl rfl)
theorem okFs_congr {l l' : List Atm} (h : ∀ a, a ∈ l ↔ a ∈ l') (hl : l.length = l'.length) : okFs l = okFs l' := by
  unfold okFs
  rw [hl]
  congr 1
  rw [Bool.eq_iff_iff, List.all_eq_true, List.all_eq_true]
  exact ⟨fun h1 a ha => h1 a ((h a).2 ha), fun h1 a ha => h1 a ((h a).1 ha)⟩
theorem resO_congr {h : List Int} {b l l' : List Atm} (hm : ∀ a, a ∈ l ↔ a ∈ l') (hl : l.length = l'.length) : resO h b l = resO h b l' := by
  unfold resO runF
  rw [okFs_congr hm hl, srtF_congr hm]
theorem resO_cases (h : List Int) (b l : List Atm) : (resO h b l).1 = 0 ∨ (resO h b l).1 = 2 ∨ (resO h b l).1 = 3 := by
  unfold resO
  split
  · split
    · exact .inl rfl
    · exact .inr (.inr rfl)
  · exact .inr (.inl rfl)
theorem resO_ok {h : List Int} {b l : List Atm} (h0 : (resO h b l).1 = 0) : okQ h b = true ∧ okFs l = true ∧ (resO h b l).2 = rowsOf h (allM (srtF l) b) := by
  unfold resO at h0 ⊢
  split at h0
  · rename_i hq
    rw [Bool.and_eq_true] at hq
    refine ⟨hq.1, hq.2, ?_⟩
    rw [if_pos (by rw [hq.1, hq.2]; rfl)]
    split at h0
    · rename_i ms hr
      rw [(runF_some.1 hr).1]
    · cases h0
  · cases h0
end Go.Proofs.YtmjpnfapjcfejaaGreatDoor
