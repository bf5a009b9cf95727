/- Contracts: the reference's results, equal rows, a fact is matched; the copies that the statements make. No condition. -/
import Derived.Test.YtjkphmbjdleppaaGreatMp
namespace Go.Proofs.YtjkphmbjdleppaaGreat
open Go Go.RowKit VC
set_option linter.unusedSimpArgs false
set_option linter.unusedVariables false

theorem refResults_c {w : World} {hv bv fv : Value} {h : List Int} {b l : List Atm} (hh : SlI w hv h) (hb : SlA w bv b) (hl : SlA w fv l) : Calls Tryz.prog 19 #[.agg #[hv, bv], fv] w fun e w' => ∃ v, e = .returned (.tuple #[v, .int .i64 (resO h b l).1]) ∧ SlL w' v (resO h b l).2 ∧ Grow w w' := by
  refine f19_calls _ _ ?_
  refine ⟨_, rfl, fun w1 hw1 => ?_⟩
  have g1 := alloc_grow hw1
  refine ⟨[_, _], rfl, two (boxc hw1 0 _ rfl) (boxc hw1 1 _ rfl), (refValid_c (hh.grow g1) (hb.gr g1)).mono ?_⟩
  rintro e w4 ⟨rfl, g4⟩
  have g04 := g1.trans g4
  refine ⟨_, rfl, condP_i (fun h1 => ?_) fun h1 => ?_⟩
  · have h1 : okQ h b = false := by simpa using h1
    have e1 : resO h b l = (2, []) := by simp [resO, h1]
    rw [e1]
    exact ⟨_, rfl, SlX.nil _, g04⟩
  have h1 : okQ h b = true := by simpa using h1
  refine (refFacts_c (hl.gr g04)).mono ?_
  rintro e w7 ⟨rfl, g7⟩
  have g07 := g04.trans g7
  refine ⟨_, rfl, condP_i (fun h2 => ?_) fun h2 => ?_⟩
  · have h2 : okFs l = false := by simpa using h2
    have e1 : resO h b l = (2, []) := by simp [resO, h1, h2]
    rw [e1]
    exact ⟨_, rfl, SlX.nil _, g07⟩
  have h2 : okFs l = true := by simpa using h2
  refine ⟨[_, _], rfl, two ((g4.trans g7).cell (boxc hw1 0 _ rfl)) ((g4.trans g7).cell (boxc hw1 1 _ rfl)), (refMatches_c (hb.gr g07) (hl.gr g07) (okB_term h1) (by have := okQ_len h1; omega) h2).mono ?_⟩
  rintro e w11 ⟨g11, hres⟩
  have g011 := g07.trans g11
  have hhd := okQ_head h1
  have hhl := (okQ_len h1).2.2
  have all : ∃ (v : Value) (ms : List Vals) (z : Int), e = .returned (.tuple #[v, .int .i64 z]) ∧ SlV w11 v ms ∧ ms.length ≤ 20000 ∧ resO h b l = (z, rowsOf h ms) := by
    rcases hres with ⟨v, ms, he, hr, hs⟩ | ⟨he, hr⟩
    · exact ⟨v, ms, 0, he, hs, runF_len hr (okQ_len h1).1, by simp [resO, h1, h2, hr]⟩
    · exact ⟨_, [], 3, he, SlR.nil _, by simp, by simp [resO, h1, h2, hr, rowsOf, srtK]⟩
  obtain ⟨v, ms, z, rfl, hs, hms, hres⟩ := all
  rw [hres]
  refine ⟨_, _, rfl, SlR.ln hs ⟨fun out t w' => ∃ i : Nat, t = i ∧ i ≤ ms.length ∧ SlL w' out (srtL ((ms.take i).map fun m => h.map (ofV m))) ∧ Grow w11 w', fun _ t _ => ms.length - t.toNat, ⟨0, rfl, by omega, SlX.nil _, Grow.refl _⟩, ?_⟩⟩
  rintro - out t w23 ⟨i, rfl, hi, hout, g23⟩
  have g023 := g011.trans g23
  refine condD (fun hlt => ?_) (fun hge => ?_)
  · have hil : i < ms.length := by omega
    refine SlV.loc (SlR.grow hs g23) rfl hil rfl fun w29 g29 s29 hV => ?_
    have g029 := g023.trans g29
    have gb : Grow w1 w29 := ((g4.trans g7).trans g11).trans (g23.trans g29)
    refine ⟨hv, gb.cell (boxc hw1 0 _ rfl), (hh.grow g029).ln ?_⟩
    refine ⟨fun row t w' => ∃ j : Nat, t = j ∧ j ≤ h.length ∧ OwnI w' w29.heap.size row ((h.take j).map (ofV ms[i])) ∧ Fr (fun i => w29.heap.size ≤ i) w29 w', fun _ t _ => h.length - t.toNat, ⟨0, rfl, by omega, by simpa [OwnI] using Own.nil w29 w29.heap.size 3 1, Fr.refl _ _⟩, ?_⟩
    rintro - row t w40 ⟨j, rfl, hj, hrow, hf⟩
    have g40 : Grow w29 w40 := (Grow.refl _).fr hf fun i hi e => by omega
    refine condD (fun hlt2 => ?_) (fun hge2 => ?_)
    · have hjl : j < h.length := by omega
      have hx := hhd _ (List.getElem_mem hjl)
      refine (hh.grow (g029.trans g40)).rd rfl hjl ⟨by omega, ms[i].getD (h[j]).toNat 0, cells8 (hV.grow g40) (by omega), fun w46 hw46 => ?_⟩
      refine papp1 el_int hw46 hrow rfl (by have := g40.size; omega) (by simp; omega) (by omega) ?_
      intro v' w' ho2 hf2 _
      refine ⟨by unfold inR; omega, ⟨j + 1, by omega, by omega, ?_, ?_⟩, by dsimp only; omega⟩
      · rw [List.take_succ_eq_append_getElem hjl, List.map_append]
        have e3 : ofV ms[i] h[j] = ms[i].getD (h[j]).toNat 0 := by rw [ofV, if_neg (by omega)]
        simp only [List.map_cons, List.map_nil, e3]
        unfold OwnI
        rw [List.length_append, List.map_append]
        exact ho2
      · exact hf.trans ((Fr.of_grow (alloc_grow hw46)).trans (hf2.mono fun k _ e => (Own.lt hrow e.symm).1))
    · have hjl : j = h.length := by omega
      subst hjl
      rw [List.take_length] at hrow
      have hL : (srtL ((ms.take i).map fun m => h.map (ofV m))).length ≤ 100000 := by
        have h9 := len_srt (key := id) ((ms.take i).map fun m => h.map (ofV m))
        rw [List.length_map, List.length_take] at h9
        show (srtK id _).length ≤ 100000
        omega
      refine (put_c (hout.gr (g29.trans g40)) (str_srt key_id _) (Own.slI hrow) hL).mono ?_
      rintro e w49 ⟨v', rfl, hv', g49⟩
      refine ⟨v', rfl, by unfold inR; omega, ⟨i + 1, by omega, by omega, ?_, (g23.trans g29).trans (g40.trans g49)⟩, by dsimp only; omega⟩
      rw [List.take_succ_eq_append_getElem hil, List.map_append]
      show SlL w49 v' (srtK id (_ ++ [h.map (ofV ms[i])]))
      rw [srt_app]
      exact hv'
  · have hil : i = ms.length := by omega
    subst hil
    rw [List.take_length] at hout
    exact ⟨out, rfl, hout, g023⟩
/-! ## Equal rows -/
theorem rows_c {w : World} {u v : Value} {L M : List (List Int)} (hx : SlL w u L) (hy : SlL w v M) : Calls Tryz.prog 23 #[u, v] w (Ret w (.bool (decide (L = M)))) := by
  refine f23_calls _ _ ?_
  have main : Calls Tryz.prog 52 #[u, v, .func (.func 13) #[] #[]] w (Ret w (.bool (decide (L = M)))) := by
    refine f52_calls _ _ _ ?_
    have h1 := SlX.len_le hx
    have h2 := SlX.len_le hy
    refine SlX.ln hx (SlX.ln hy (condP_i (fun h => ?_) fun h => ?_))
    · refine ⟨?_, Grow.refl w⟩
      have : L ≠ M := fun e => by subst e; simp at h
      rw [decide_eq_false this]
    have hl : L.length = M.length := by simp at h; omega
    refine SlX.ln hx ⟨fun t w' => ∃ k : Nat, t = k ∧ k ≤ L.length ∧ Grow w w' ∧ L.take k = M.take k, fun t _ => L.length - t.toNat, ⟨0, rfl, by omega, Grow.refl w, by simp⟩, ?_⟩
    rintro - t w1 ⟨k, rfl, hk, hw, htk⟩
    refine condD (fun hlt => ?_) (fun hge => ?_)
    · have hkl : k < L.length := by omega
      refine SlL.rd1 (hx.gr hw) rfl hkl fun a ha => SlL.rd1 (hy.gr hw) rfl (by omega) fun c hc => ⟨_, _, _, rfl, by kernel_rfl, ?_⟩
      rw [app2]
      refine (equal_c ha hc).mono ?_
      rintro e w2 ⟨rfl, g2⟩
      refine ⟨_, rfl, condP_i (fun h => ?_) fun h => ?_⟩
      · have h : ¬ L[k] = M[k] := by simpa using h
        refine ⟨?_, hw.trans g2⟩
        have : L ≠ M := fun e => h (by subst e; rfl)
        rw [decide_eq_false this]
      · have he : L[k] = M[k] := by simpa using h
        refine ⟨by unfold inR; omega, ⟨k + 1, by omega, by omega, hw.trans g2, ?_⟩, by dsimp only; omega⟩
        rw [List.take_succ_eq_append_getElem hkl, List.take_succ_eq_append_getElem (by omega), htk, he]
    · refine ⟨?_, hw⟩
      have : k = L.length := by omega
      subst this
      rw [List.take_length, hl, List.take_length] at htk
      rw [decide_eq_true htk]
  refine main.mono ?_
  rintro e w' ⟨rfl, g⟩
  exact ⟨_, rfl, rfl, g⟩
/-! ## A fact is matched -/
theorem slA_one {w w' : World} {r : Int} {u : Value} {xs : List Int} {e : TypeId} (hw : w' = w.alloc (.cells #[.int .i64 r, u] e)) (hu : SlI w' u xs) : SlA w' (.slice (some ⟨w.heap.size, 0, none⟩) 1 1) [(r, xs)] := by
  have hl := Own.lit (B := w.heap.size) (n := 1) (sz := 2) hw (Nat.le_refl _) (by omega) (by simp)
  have := SlX.of_cells (k := 2) (rep := repA) (w := w') (v := .slice (some ⟨w.heap.size, 0, none⟩) 1 1) (ps := [([.int .i64 r, u], (r, xs))]) (fun p hp => by
    obtain rfl : p = ([.int .i64 r, u], (r, xs)) := by simpa using hp
    exact ⟨rfl, u, rfl, hu⟩) (by simpa using hl.slC)
  simpa using this
theorem slI_lit {w w' : World} {cs : Array Value} {xs : List Int} {e : TypeId} (hw : w' = w.alloc (.cells cs e)) (hc : cs.toList = xs.map VC.encI) (hl : xs.length ≤ 1000) : SlI w' (.slice (some ⟨w.heap.size, 0, none⟩) xs.length xs.length) xs := by
  have h := Own.lit (B := w.heap.size) (n := xs.length) (sz := 1) hw (Nat.le_refl _) (by omega) (by
    rw [← Array.length_toList, hc]; simp)
  rw [hc] at h
  exact Own.slI h
theorem awake_val : resO [1] [(2, [-4, 1])] [(2, [4, 8])] = (0, [[8]]) := by kernel_rfl
theorem awake_c {w : World} : Calls Tryz.prog 9 #[] w (Ret w (.bool true)) := by
  refine f9_calls ?_
  intro w1 hw1 w2 hw2
  have g1 := alloc_grow hw1
  have g2 := alloc_grow hw2
  have hh := slI_lit (xs := [1]) hw1 rfl (by simp)
  have ha := slI_lit (xs := [-4, 1]) hw2 rfl (by simp)
  refine ⟨SlI.one ha, bs1 el_atom (by omega) (by omega) (cs := #[.int .i64 2, .slice (some ⟨w1.heap.size, 0, none⟩) 2 2]) rfl w2 fun w3 hw3 => ?_⟩
  have g3 := alloc_grow hw3
  have hb := slA_one hw3 (SlI.grow ha g3)
  refine ⟨SlI.one hh, SlX.one hb, fun w5 hw5 => ?_⟩
  have g5 := alloc_grow hw5
  have hf := slI_lit (xs := [4, 8]) hw5 rfl (by simp)
  refine ⟨SlI.one hf, bs1 el_fact (by omega) (by omega) (cs := #[.int .i64 2, .slice (some ⟨w3.heap.size, 0, none⟩) 2 2]) rfl w5 fun w6 hw6 => ?_⟩
  have g6 := alloc_grow hw6
  have hl := slA_one hw6 (SlI.grow hf g6)
  have g06 := (((g1.trans g2).trans g3).trans g5).trans g6
  refine (results_c (SlI.grow hh (((g2.trans g3).trans g5).trans g6)) (hb.gr (g5.trans g6)) hl).mono ?_
  rw [awake_val]
  rintro e w8 ⟨v, rfl, hv, g8⟩
  refine ⟨_, _, rfl, cT rfl fun w12 hw12 => ?_⟩
  have g12 := alloc_grow hw12
  have hr := slI_lit (xs := [8]) hw12 rfl (by simp)
  refine ⟨SlI.one hr, fun w13 hw13 => ?_⟩
  have g13 := alloc_grow hw13
  have hrow := SlI.grow hr g13
  have hR : SlL w13 (.slice (some ⟨w12.heap.size, 0, none⟩) 1 1) [[8]] := by
    have h := Own.lit (B := w12.heap.size) (n := 1) (sz := 1) hw13 (Nat.le_refl _) (by omega) (by simp)
    have := SlX.of_cells (k := 1) (rep := repI) (w := w13) (v := .slice (some ⟨w12.heap.size, 0, none⟩) 1 1) (ps := [([.slice (some ⟨w8.heap.size, 0, none⟩) 1 1], [8])]) (fun p hp => by
      obtain rfl : p = ([.slice (some ⟨w8.heap.size, 0, none⟩) 1 1], [8]) := by simpa using hp
      exact ⟨rfl, _, rfl, hrow⟩) (by simpa using h.slC)
    simpa using this
  refine (rows_c (hv.gr (g12.trans g13)) hR).mono ?_
  rintro e w14 ⟨rfl, g14⟩
  exact ⟨_, rfl, by simp, (g06.trans g8).trans ((g12.trans g13).trans g14)⟩
/-! ## The copies say the same -/
theorem trA_id {a : Atm} (h : a.2.length ≤ 9) : trA a = a := by
  unfold trA
  rw [List.take_of_length_le h]
theorem trA_len {a : Atm} (h : (trA a).2.length ≤ 3) : a.2.length ≤ 3 := by
  unfold trA at h
  simp only [List.length_take] at h
  omega
theorem map_trA {l : List Atm} (h : ∀ a ∈ l, a.2.length ≤ 9) : l.map trA = l := by
  conv => rhs; rw [← List.map_id l]
  exact List.map_congr_left fun a ha => trA_id (h a ha)
theorem trB_of {h : List Int} {b : List Atm} (hq : okQ h b = true) : trB b = b ∧ h.take 9 = h := by
  obtain ⟨h1, h2, h3⟩ := okQ_len hq
  have hb : ∀ a ∈ b, a.2.length ≤ 9 := fun a ha => by
    simp only [okQ, Bool.and_eq_true, List.all_eq_true] at hq
    have := (okA_iff.1 (hq.1.2 a ha)).2.2.2.1
    omega
  exact ⟨by unfold trB; rw [List.take_of_length_le (by omega), map_trA hb], List.take_of_length_le (by omega)⟩
theorem okQ_tr (h : List Int) (b : List Atm) : okQ (h.take 9) (trB b) = okQ h b := by
  rw [Bool.eq_iff_iff]
  constructor
  · intro hq
    have h0 := hq
    obtain ⟨h1, h2, h3⟩ := okQ_len hq
    have hbl : b.length ≤ 5 := by unfold trB at h2; simp at h2; omega
    have hhl : h.length ≤ 4 := by simp at h3; omega
    have hb : ∀ a ∈ b, a.2.length ≤ 9 := fun a ha => by
      simp only [okQ, Bool.and_eq_true, List.all_eq_true] at hq
      have hm : trA a ∈ trB b := List.mem_map_of_mem (by rw [List.take_of_length_le (by omega)]; exact ha)
      have := trA_len (okA_iff.1 (hq.1.2 _ hm)).2.2.2.1
      omega
    have e1 : trB b = b := by unfold trB; rw [List.take_of_length_le (by omega), map_trA hb]
    rwa [e1, List.take_of_length_le (by omega)] at h0
  · intro hq
    obtain ⟨e1, e2⟩ := trB_of hq
    rwa [e1, e2]
theorem ofS_c {w : World} {hv v : Value} {h : List Int} {l : List Atm} (hh : SlI w hv h) (hs : SlA w v l) : Calls Tryz.prog 6 #[.agg #[hv, v]] w fun e w' => ∃ hv' v', e = .returned (.agg #[hv', v']) ∧ SlI w' hv' (h.take 9) ∧ SlA w' v' (trB l) ∧ Grow w w' := by
  refine (of_c hh hs).mono ?_
  rintro e w' ⟨a, b, rfl, h1, h2, g, -⟩
  exact ⟨a, b, rfl, Own.slI h1, h2.slX, g⟩
theorem varsL_bit : ∀ {xs : List Int} {i : Nat}, (varsL xs).testBit i = true ↔ (i : Int) ∈ xs
  | [], i => by simp [varsL]
  | x :: r, i => by
    rw [varsL, Nat.testBit_or, Bool.or_eq_true, varsL_bit, List.mem_cons]
    refine or_congr_left ?_
    split
    · rename_i h
      rw [Nat.testBit_two_pow]
      simp; omega
    · simp; omega
theorem varsB_bit : ∀ {b : List Atm} {i : Nat}, (varsB b).testBit i = true ↔ (i : Int) ∈ b.flatMap Prod.snd
  | [], i => by simp [varsB]
  | a :: r, i => by rw [varsB, Nat.testBit_or, Bool.or_eq_true, varsB_bit, varsL_bit, List.flatMap_cons, List.mem_append]
end Go.Proofs.YtjkphmbjdleppaaGreat
