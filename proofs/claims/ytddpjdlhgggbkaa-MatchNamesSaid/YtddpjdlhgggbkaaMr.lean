/- Contracts: the reference's results, equal rows, a fact is matched; the copies that the statements make. No condition. -/
import Derived.Test.YtddpjdlhgggbkaaMp
namespace Go.Proofs.Ytddpjdlhgggbkaa
open Go Go.RowKit VC
set_option linter.unusedSimpArgs false
set_option linter.unusedVariables false

/-! ## Equal rows -/
theorem rows_c {w : World} {u v : Value} {L M : List (List Int)} (hx : SlL w u L) (hy : SlL w v M) : Calls Try.prog 11 #[u, v] w (Ret w (.bool (decide (L = M)))) := by
  refine f11_calls _ _ ?_
  have main : Calls Try.prog 29 #[u, v, .func (.func 26) #[] #[]] w (Ret w (.bool (decide (L = M)))) := by
    refine f29_calls _ _ _ ?_
    have h1 := SlX.len_le hx
    have h2 := SlX.len_le hy
    refine SlX.ln hx (SlX.ln hy (condP_i (fun h => ?_) fun h => ?_))
    · refine ⟨?_, Grow.refl w⟩
      have : L ≠ M := fun e => by subst e; simp at h
      rw [decide_eq_false this]
    have hl : L.length = M.length := by simp at h; omega
    refine SlX.ln hx ⟨fun t w' => ∃ k : Nat, t = k ∧ k ≤ L.length ∧ Grow w w' ∧ L.take k = M.take k, fun t _ => L.length - t.toNat, ⟨0, rfl, by omega, Grow.refl w, by simp⟩, ?_⟩
    rintro - t w1 ⟨k, rfl, hk, hw, htk⟩
    refine condD (fun hlt => ?_) (fun hge => ?_)
    · have hkl : k < L.length := by omega
      refine SlL.rd1 (hx.gr hw) rfl hkl fun a ha => SlL.rd1 (hy.gr hw) rfl (by omega) fun c hc => ⟨_, _, _, rfl, by kernel_rfl, ?_⟩
      rw [app2]
      refine (equal_c ha hc).mono ?_
      rintro e w2 ⟨rfl, g2⟩
      refine ⟨_, rfl, condP_i (fun h => ?_) fun h => ?_⟩
      · have h : ¬ L[k] = M[k] := by simpa using h
        refine ⟨?_, hw.trans g2⟩
        have : L ≠ M := fun e => h (by subst e; rfl)
        rw [decide_eq_false this]
      · have he : L[k] = M[k] := by simpa using h
        refine ⟨by unfold inR; omega, ⟨k + 1, by omega, by omega, hw.trans g2, ?_⟩, by dsimp only; omega⟩
        rw [List.take_succ_eq_append_getElem hkl, List.take_succ_eq_append_getElem (by omega), htk, he]
    · refine ⟨?_, hw⟩
      have : k = L.length := by omega
      subst this
      rw [List.take_length, hl, List.take_length] at htk
      rw [decide_eq_true htk]
  refine main.mono ?_
  rintro e w' ⟨rfl, g⟩
  exact ⟨_, rfl, rfl, g⟩
/-! ## A fact is matched -/
theorem slA_one {w w' : World} {r : Int} {u : Value} {xs : List Int} {e : TypeId} (hw : w' = w.alloc (.cells #[.int .i64 r, u] e)) (hu : SlI w' u xs) : SlA w' (.slice (some ⟨w.heap.size, 0, none⟩) 1 1) [(r, xs)] := by
  have hl := Own.lit (B := w.heap.size) (n := 1) (sz := 2) hw (Nat.le_refl _) (by omega) (by simp)
  have := SlX.of_cells (k := 2) (rep := repA) (w := w') (v := .slice (some ⟨w.heap.size, 0, none⟩) 1 1) (ps := [([.int .i64 r, u], (r, xs))]) (fun p hp => by
    obtain rfl : p = ([.int .i64 r, u], (r, xs)) := by simpa using hp
    exact ⟨rfl, u, rfl, hu⟩) (by simpa using hl.slC)
  simpa using this
theorem slI_lit {w w' : World} {cs : Array Value} {xs : List Int} {e : TypeId} (hw : w' = w.alloc (.cells cs e)) (hc : cs.toList = xs.map VC.encI) (hl : xs.length ≤ 1000) : SlI w' (.slice (some ⟨w.heap.size, 0, none⟩) xs.length xs.length) xs := by
  have h := Own.lit (B := w.heap.size) (n := xs.length) (sz := 1) hw (Nat.le_refl _) (by omega) (by
    rw [← Array.length_toList, hc]; simp)
  rw [hc] at h
  exact Own.slI h
theorem awake_val : resO [1] [(2, [-4, 1])] [(2, [4, 8])] = (0, [[8]]) := by kernel_rfl
theorem awake_c {w : World} : Calls Try.prog 13 #[] w (Ret w (.bool true)) := by
  refine f13_calls ?_
  intro w1 hw1 w2 hw2
  have g1 := alloc_grow hw1
  have g2 := alloc_grow hw2
  have hh := slI_lit (xs := [1]) hw1 rfl (by simp)
  have ha := slI_lit (xs := [-4, 1]) hw2 rfl (by simp)
  refine ⟨SlI.one ha, bs1 el_atom (by omega) (by omega) (cs := #[.int .i64 2, .slice (some ⟨w1.heap.size, 0, none⟩) 2 2]) rfl w2 fun w3 hw3 => ?_⟩
  have g3 := alloc_grow hw3
  have hb := slA_one hw3 (SlI.grow ha g3)
  refine ⟨SlI.one hh, SlX.one hb, fun w5 hw5 => ?_⟩
  have g5 := alloc_grow hw5
  have hf := slI_lit (xs := [4, 8]) hw5 rfl (by simp)
  refine ⟨SlI.one hf, bs1 el_fact (by omega) (by omega) (cs := #[.int .i64 2, .slice (some ⟨w3.heap.size, 0, none⟩) 2 2]) rfl w5 fun w6 hw6 => ?_⟩
  have g6 := alloc_grow hw6
  have hl := slA_one hw6 (SlI.grow hf g6)
  have g06 := (((g1.trans g2).trans g3).trans g5).trans g6
  refine (results_c (SlI.grow hh (((g2.trans g3).trans g5).trans g6)) (hb.gr (g5.trans g6)) hl).mono ?_
  rw [awake_val]
  rintro e w8 ⟨v, rfl, hv, g8⟩
  refine ⟨_, _, rfl, cT rfl fun w12 hw12 => ?_⟩
  have g12 := alloc_grow hw12
  have hr := slI_lit (xs := [8]) hw12 rfl (by simp)
  refine ⟨SlI.one hr, fun w13 hw13 => ?_⟩
  have g13 := alloc_grow hw13
  have hrow := SlI.grow hr g13
  have hR : SlL w13 (.slice (some ⟨w12.heap.size, 0, none⟩) 1 1) [[8]] := by
    have h := Own.lit (B := w12.heap.size) (n := 1) (sz := 1) hw13 (Nat.le_refl _) (by omega) (by simp)
    have := SlX.of_cells (k := 1) (rep := repI) (w := w13) (v := .slice (some ⟨w12.heap.size, 0, none⟩) 1 1) (ps := [([.slice (some ⟨w8.heap.size, 0, none⟩) 1 1], [8])]) (fun p hp => by
      obtain rfl : p = ([.slice (some ⟨w8.heap.size, 0, none⟩) 1 1], [8]) := by simpa using hp
      exact ⟨rfl, _, rfl, hrow⟩) (by simpa using h.slC)
    simpa using this
  refine (rows_c (hv.gr (g12.trans g13)) hR).mono ?_
  rintro e w14 ⟨rfl, g14⟩
  exact ⟨_, rfl, by simp, (g06.trans g8).trans ((g12.trans g13).trans g14)⟩
/-! ## The copies say the same -/
theorem trA_id {a : Atm} (h : a.2.length ≤ 9) : trA a = a := by
  unfold trA
  rw [List.take_of_length_le h]
theorem trA_len {a : Atm} (h : (trA a).2.length ≤ 3) : a.2.length ≤ 3 := by
  unfold trA at h
  simp only [List.length_take] at h
  omega
theorem map_trA {l : List Atm} (h : ∀ a ∈ l, a.2.length ≤ 9) : l.map trA = l := by
  conv => rhs; rw [← List.map_id l]
  exact List.map_congr_left fun a ha => trA_id (h a ha)
theorem trB_of {h : List Int} {b : List Atm} (hq : okQ h b = true) : trB b = b ∧ h.take 9 = h := by
  obtain ⟨h1, h2, h3⟩ := okQ_len hq
  have hb : ∀ a ∈ b, a.2.length ≤ 9 := fun a ha => by
    simp only [okQ, Bool.and_eq_true, List.all_eq_true] at hq
    have := (okA_iff.1 (hq.1.2 a ha)).2.2.2.1
    omega
  exact ⟨by unfold trB; rw [List.take_of_length_le (by omega), map_trA hb], List.take_of_length_le (by omega)⟩
theorem okQ_tr (h : List Int) (b : List Atm) : okQ (h.take 9) (trB b) = okQ h b := by
  rw [Bool.eq_iff_iff]
  constructor
  · intro hq
    have h0 := hq
    obtain ⟨h1, h2, h3⟩ := okQ_len hq
    have hbl : b.length ≤ 5 := by unfold trB at h2; simp at h2; omega
    have hhl : h.length ≤ 4 := by simp at h3; omega
    have hb : ∀ a ∈ b, a.2.length ≤ 9 := fun a ha => by
      simp only [okQ, Bool.and_eq_true, List.all_eq_true] at hq
      have hm : trA a ∈ trB b := List.mem_map_of_mem (by rw [List.take_of_length_le (by omega)]; exact ha)
      have := trA_len (okA_iff.1 (hq.1.2 _ hm)).2.2.2.1
      omega
    have e1 : trB b = b := by unfold trB; rw [List.take_of_length_le (by omega), map_trA hb]
    rwa [e1, List.take_of_length_le (by omega)] at h0
  · intro hq
    obtain ⟨e1, e2⟩ := trB_of hq
    rwa [e1, e2]
theorem trF_of {l : List Atm} (hf : okFs l = true) : trF l = l := by
  simp only [okFs, Bool.and_eq_true, decide_eq_true_eq, List.all_eq_true] at hf
  unfold trF
  rw [List.take_of_length_le (by omega), map_trA fun a ha => by have := (okF_iff.1 (hf.2 a ha)).2.2.2.1; omega]
theorem okFs_tr (l : List Atm) : okFs (trF l) = okFs l := by
  rw [Bool.eq_iff_iff]
  constructor
  · intro hf
    have h0 := hf
    simp only [okFs, Bool.and_eq_true, decide_eq_true_eq, List.all_eq_true] at hf
    have hl : l.length ≤ 24 := by
      have := hf.1
      unfold trF at this; simp at this; omega
    have hb : ∀ a ∈ l, a.2.length ≤ 9 := fun a ha => by
      have hm : trA a ∈ trF l := List.mem_map_of_mem (by rw [List.take_of_length_le (by omega)]; exact ha)
      have := trA_len (okF_iff.1 (hf.2 _ hm)).2.2.2.1
      omega
    have e1 : trF l = l := by unfold trF; rw [List.take_of_length_le (by omega), map_trA hb]
    rwa [e1] at h0
  · intro hf
    rwa [trF_of hf]
theorem resO_tr (h : List Int) (b l : List Atm) : resO (h.take 9) (trB b) (trF l) = resO h b l := by
  unfold resO
  rw [okQ_tr, okFs_tr]
  split
  · rename_i hq
    rw [Bool.and_eq_true] at hq
    rw [(trB_of hq.1).1, (trB_of hq.1).2, trF_of hq.2]
  · rfl
theorem ofS_c {w : World} {hv v : Value} {h : List Int} {l : List Atm} (hh : SlI w hv h) (hs : SlA w v l) : Calls Try.prog 6 #[.agg #[hv, v]] w fun e w' => ∃ hv' v', e = .returned (.agg #[hv', v']) ∧ SlI w' hv' (h.take 9) ∧ SlA w' v' (trB l) ∧ Grow w w' := by
  refine (of_c hh hs).mono ?_
  rintro e w' ⟨a, b, rfl, h1, h2, g, -⟩
  exact ⟨a, b, rfl, Own.slI h1, h2.slX, g⟩
theorem factsS_c {w : World} {v : Value} {l : List Atm} (hs : SlA w v l) : Calls Try.prog 9 #[v] w fun e w' => ∃ v', e = .returned v' ∧ SlA w' v' (trF l) ∧ Grow w w' := by
  refine (facts_c hs).mono ?_
  rintro e w' ⟨a, rfl, h1, g⟩
  exact ⟨a, rfl, h1.slX, g⟩
theorem varsL_bit : ∀ {xs : List Int} {i : Nat}, (varsL xs).testBit i = true ↔ (i : Int) ∈ xs
  | [], i => by simp [varsL]
  | x :: r, i => by
    rw [varsL, Nat.testBit_or, Bool.or_eq_true, varsL_bit, List.mem_cons]
    refine or_congr_left ?_
    split
    · rename_i h
      rw [Nat.testBit_two_pow]
      simp; omega
    · simp; omega
theorem varsB_bit : ∀ {b : List Atm} {i : Nat}, (varsB b).testBit i = true ↔ (i : Int) ∈ b.flatMap Prod.snd
  | [], i => by simp [varsB]
  | a :: r, i => by rw [varsB, Nat.testBit_or, Bool.or_eq_true, varsB_bit, varsL_bit, List.flatMap_cons, List.mem_append]
theorem resO_cases (h : List Int) (b l : List Atm) : (resO h b l).1 = 0 ∨ (resO h b l).1 = 2 ∨ (resO h b l).1 = 3 := by
  unfold resO
  split
  · split
    · exact .inl rfl
    · exact .inr (.inr rfl)
  · exact .inr (.inl rfl)
theorem resO_ok {h : List Int} {b l : List Atm} (h0 : (resO h b l).1 = 0) : okQ h b = true ∧ okFs l = true ∧ (resO h b l).2 = rowsOf h (allM (srtF l) b) := by
  unfold resO at h0 ⊢
  split at h0
  · rename_i hq
    rw [Bool.and_eq_true] at hq
    refine ⟨hq.1, hq.2, ?_⟩
    rw [if_pos (by rw [hq.1, hq.2]; rfl)]
    split at h0
    · rename_i ms hr
      rw [(runF_some.1 hr).1]
    · cases h0
  · cases h0
end Go.Proofs.Ytddpjdlhgggbkaa
