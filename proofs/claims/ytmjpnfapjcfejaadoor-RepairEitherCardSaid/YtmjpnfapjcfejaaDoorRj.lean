/- Contracts: Certain, Counter, Share, Range, by the program. The table of bits is laid (Tab). -/
import Derived.Test.YtmjpnfapjcfejaaDoorRi
namespace Go.Proofs.YtmjpnfapjcfejaaDoor
open Go Go.RowKit VC
set_option linter.unusedSimpArgs false
set_option linter.unusedVariables false

theorem indexI_c {w : World} {v : Value} {xs : List Int} {x : Int} (hs : SlI w v xs) : Calls Tryd.prog 47 #[v, .int .i64 x] w (Ret w (.int .i64 (idxOf (fun y => decide (x = y)) xs))) := by
  refine f47_calls _ _ ?_
  have hle := hs.len_le
  refine hs.ln ⟨fun t w' => ∃ k : Nat, t = k ∧ k ≤ xs.length ∧ w' = w ∧ ∀ j (hj : j < xs.length), j < k → ¬ x = xs[j], fun t _ => xs.length - t.toNat, ⟨0, rfl, by omega, rfl, fun j _ h => by omega⟩, ?_⟩
  rintro - t w1 ⟨k, rfl, hk, rfl, hno⟩
  refine condD (fun hlt => ?_) (fun hge => ?_)
  · have hkl : k < xs.length := by omega
    refine hs.rd rfl hkl (condD (fun he => ⟨?_, Grow.refl _⟩) fun he => ⟨by unfold inR; omega, ⟨k + 1, by omega, by omega, rfl, fun j hj hjk => ?_⟩, by dsimp only; omega⟩)
    · rw [idxOf_some hkl (decide_eq_true he) fun j hj hlt => decide_eq_false (hno j hj hlt)]
    · by_cases e : j = k
      · subst e; exact he
      · exact hno j hj (by omega)
  · have : idxOf (fun y => decide (x = y)) xs = -1 := idxOf_none fun j hj => decide_eq_false (hno j hj (by omega))
    exact ⟨by rw [this], Grow.refl _⟩
theorem containsI_c {w : World} {v : Value} {xs : List Int} {x : Int} (hs : SlI w v xs) : Calls Tryd.prog 46 #[v, .int .i64 x] w (Ret w (.bool (decide (x ∈ xs)))) := by
  refine f46_calls _ _ ?_
  refine (indexI_c hs).mono ?_
  rintro e w1 ⟨rfl, g⟩
  refine ⟨_, rfl, ?_, g⟩
  rw [idxOf_any]
  have : xs.any (fun y => decide (x = y)) = decide (x ∈ xs) := by
    rw [Bool.eq_iff_iff, List.any_eq_true, decide_eq_true_eq]
    constructor
    · rintro ⟨y, hy, h⟩
      rw [decide_eq_true_eq] at h
      exact h ▸ hy
    · exact fun h => ⟨x, h, decide_eq_true rfl⟩
  rw [this]
/-! ## What a question comes to -/
def cnts (s : List Int) (b L : List Atm) : List Nat := (allR (klS s) L).map (cntM b L)
def certB (s : List Int) (b L : List Atm) : Bool := (allR (klS s) L).all fun m => decide (cntM b L m ≠ 0)
def cntrO (s : List Int) (b L : List Atm) : Option Nat := (allR (klS s) L).find? fun m => decide (cntM b L m = 0)
def shareN (s : List Int) (b L : List Atm) : Nat := ((allR (klS s) L).filter fun m => decide (cntM b L m ≠ 0)).length
theorem zero_mem (s : List Int) (b L : List Atm) : (!decide ((0 : Int) ∈ natI (cnts s b L))) = certB s b L := by
  rw [Bool.eq_iff_iff, Bool.not_eq_true', decide_eq_false_iff_not, certB, List.all_eq_true]
  constructor
  · intro h m hm
    refine decide_eq_true fun h0 => h ?_
    exact List.mem_map.2 ⟨0, List.mem_map.2 ⟨m, hm, h0⟩, rfl⟩
  · intro h h0
    obtain ⟨x, hx, e⟩ := List.mem_map.1 h0
    obtain ⟨m, hm, rfl⟩ := List.mem_map.1 hx
    exact of_decide_eq_true (h m hm) (by omega)
theorem idx_find (c : Nat → Nat) (R : List Nat) : (idxOf (fun y => decide ((0 : Int) = y)) (natI (R.map c)) < 0 ∧ R.find? (fun m => decide (c m = 0)) = none) ∨ ∃ (k : Nat) (h : k < R.length), idxOf (fun y => decide ((0 : Int) = y)) (natI (R.map c)) = k ∧ R.find? (fun m => decide (c m = 0)) = some R[k] := by
  have hg : ∀ i (hi : i < R.length) (hi' : i < (natI (R.map c)).length), (natI (R.map c))[i] = (c R[i] : Int) := fun i hi hi' => by
    rw [natI_get (by rw [List.length_map]; exact hi), List.getElem_map]
  have hl : (natI (R.map c)).length = R.length := by rw [natI_len, List.length_map]
  cases h : (natI (R.map c)).findIdx? (fun y => decide ((0 : Int) = y)) with
  | none =>
    refine .inl ⟨by rw [idxOf, h]; decide, List.find?_eq_none.2 fun m hm h0 => ?_⟩
    have := List.findIdx?_eq_none_iff.1 h (c m : Int) (List.mem_map.2 ⟨c m, List.mem_map.2 ⟨m, hm, rfl⟩, rfl⟩)
    have h0 := of_decide_eq_true h0
    rw [h0] at this
    simp at this
  | some k =>
    obtain ⟨hk, h1, h2⟩ := List.findIdx?_eq_some_iff_getElem.1 h
    have hkR : k < R.length := by omega
    refine .inr ⟨k, hkR, by rw [idxOf, h], List.find?_eq_some_iff_getElem.2 ⟨?_, k, hkR, rfl, fun j hj => ?_⟩⟩
    · rw [hg k hkR] at h1
      have := of_decide_eq_true h1
      exact decide_eq_true (by omega)
    · have := h2 j hj
      rw [hg j (by omega)] at this
      simp at this ⊢
      omega
theorem allR_len (kl : Int → Nat) (L : List Atm) (h12 : L.length ≤ 12) : (allR kl L).length ≤ 4096 := by
  have := List.length_filter_le (repB kl L) (List.range (2 ^ L.length))
  rw [List.length_range] at this
  have hpow : 2 ^ L.length ≤ 2 ^ 12 := Nat.pow_le_pow_right (by omega) h12
  have e : (allR kl L).length = ((List.range (2 ^ L.length)).filter (repB kl L)).length := rfl
  omega
section
variable {w : World} {sv fv hv bv : Value} {s h : List Int} {b L : List Atm}
/-- What Certain, Counter, Share and Range have in common: the question is asked, then counted. -/
theorem quest_c {q : Bool} (hs : SlI w sv s) (hl : SlA w fv L) (hh : SlI w hv h) (hb : SlA w bv b) (hT : Tab w) {K : Ending → World → Prop} {F : Value → Value → Value → World → Prop} {N : Int → World → Prop}
    (hno : ∀ w', Grow w w' → askE q s h b L ≠ 0 → N (askE q s h b L) w')
    (hyes : ∀ rv cv w', Grow w w' → askE q s h b L = 0 → okR s L = true → SlI w' rv (natI (allR (klS s) L)) → SlI w' cv (natI (cnts s b L)) → F (.tuple #[rv, cv]) rv cv w') :
    ∀ w1, w1 = w.alloc (.cells #[hv, bv] 34) → ∃ cs_v3 : List Value, cs_v3.length = 2 ∧ (∀ (j : Nat) (v : Value), cs_v3[j]? = some v → w1.cell? (Addr.add ⟨w.heap.size, 0, none⟩ j) = some v) ∧ Calls Tryd.prog 44 #[sv, fv, (Value.agg cs_v3.toArray), (Value.bool q)] w1 fun e_v5 w_v4 => ∃ t_v6 : Value, ∃ t_v7 : Int, e_v5 = .returned (Value.tuple #[t_v6, (Value.int .i64 t_v7)]) ∧ ∀ w_v8, w_v8 = w_v4.alloc (.cells #[(Value.slice none 0 0), (Value.slice none 0 0)] 60) → ∃ cs_v10 : Array Value, t_v6 = Value.agg cs_v10 ∧ cs_v10.size = 2 ∧ ∃ w_v9 : World, (storeCells ⟨w_v4.heap.size, 0, none⟩ cs_v10.toList).run Tryd.prog w_v8 = .ok () w_v9 ∧ condP (!decide (t_v7 = (0 : Int))) (N t_v7 w_v9) (∃ cs_v11 : List Value, cs_v11.length = 2 ∧ (∀ (j : Nat) (v : Value), cs_v11[j]? = some v → w_v9.cell? (Addr.add ⟨w_v4.heap.size, 0, none⟩ j) = some v) ∧ ∃ cs_v12 : List Value, cs_v12.length = 2 ∧ (∀ (j : Nat) (v : Value), cs_v12[j]? = some v → w_v9.cell? (Addr.add ⟨w.heap.size, 0, none⟩ j) = some v) ∧ Calls Tryd.prog 45 #[(Value.agg cs_v11.toArray), (Value.agg cs_v12.toArray)] w_v9 fun e_v14 w_v13 => ∃ t_v15 : Value, ∃ t_v16 : Value, e_v14 = .returned (Value.tuple #[t_v15, t_v16]) ∧ F (.tuple #[t_v15, t_v16]) t_v15 t_v16 w_v13) := by
  intro w1 hw1
  have g1 := alloc_grow hw1
  have hQ := RecV.new hw1
  refine ⟨[_, _], rfl, hQ.all, (ask_c (hs.grow g1) (hl.gr g1) (hh.grow g1) (hb.gr g1)).mono ?_⟩
  rintro e w4 ⟨x, y, rfl, hx, hy, hxy, g4⟩
  refine ⟨_, _, rfl, fun w8 hw8 => RecV.init (cs := [x, y]) hw8 rfl (by simp [hx.2, hy.2]) fun w9 g9 s9 hB => ?_⟩
  have g09 := (g1.trans g4).trans g9
  refine condP_i (fun hne => hno w9 g09 (by simpa using hne)) fun heq => ?_
  have h0 : askE q s h b L = 0 := by simpa using heq
  obtain ⟨rfl, rfl⟩ := hxy h0
  have hR : okR s L = true := by
    cases hr : okR s L with
    | true => rfl
    | false => rw [askE, hr] at h0; simp at h0
  have h0' : (askO h b L).1 = 0 := by
    unfold askE at h0
    split at h0
    · exact h0
    · cases h0
  refine ⟨[_, _], rfl, hB.all, [_, _], rfl, (hQ.grow (g4.trans g9)).all, (counts_c (hs.grow g09) (hl.gr g09) (hh.grow g09) (hb.gr g09) hR h0' (hT.grow g09)).mono ?_⟩
  rintro e w13 ⟨rv, cv, rfl, hrv, hcv, g13⟩
  exact ⟨_, _, rfl, hyes rv cv w13 (g09.trans g13) h0 hR hrv hcv⟩
theorem certain_c (hs : SlI w sv s) (hl : SlA w fv L) (hh : SlI w hv h) (hb : SlA w bv b) (hT : Tab w) :
    Calls Tryd.prog 21 #[sv, fv, .agg #[hv, bv]] w (Ret w (.tuple #[.bool (decide (askE true s h b L = 0) && certB s b L), .int .i64 (askE true s h b L)])) := by
  refine f21_calls _ _ _ ⟨_, rfl, ?_⟩
  refine quest_c (K := fun _ _ => True) (N := fun z w9 => Ret w _ (.returned (.tuple #[(Value.bool false), (Value.int .i64 z)])) w9) (F := fun _ rv cv w13 => Calls Tryd.prog 46 #[cv, (Value.int .i64 0)] w13 fun e_v18 w_v17 => ∃ t_v19 : Bool, e_v18 = .returned (Value.bool t_v19) ∧ Ret w _ (.returned (.tuple #[(Value.bool (!t_v19)), (Value.int .i64 0)])) w_v17) hs hl hh hb hT (fun w' g hne => ⟨?_, g⟩) fun rv cv w' g h0 hR hrv hcv => ?_
  · rw [decide_eq_false hne]; rfl
  · refine (containsI_c hcv).mono ?_
    rintro e w17 ⟨rfl, g17⟩
    refine ⟨_, rfl, ?_, g.trans g17⟩
    rw [zero_mem, h0]; rfl
theorem counter_c (hs : SlI w sv s) (hl : SlA w fv L) (hh : SlI w hv h) (hb : SlA w bv b) (hT : Tab w) :
    Calls Tryd.prog 22 #[sv, fv, .agg #[hv, bv]] w (Ret w (.tuple #[.int .i64 (if askE true s h b L = 0 then ((cntrO s b L).getD 0 : Int) else 0), .int .i64 (if askE true s h b L = 0 then (if (cntrO s b L).isSome then 0 else 5) else askE true s h b L)])) := by
  refine f22_calls _ _ _ ⟨_, rfl, ?_⟩
  refine quest_c (K := fun _ _ => True) (N := fun z w9 => Ret w _ (.returned (.tuple #[(Value.int .i64 0), (Value.int .i64 z)])) w9) (F := fun _ rv cv w13 => Calls Tryd.prog 47 #[cv, (Value.int .i64 0)] w13 fun e_v18 w_v17 => ∃ t_v19 : Int, e_v18 = .returned (Value.int .i64 t_v19) ∧ condP (decide (t_v19 < (0 : Int))) (Ret w _ (.returned (.tuple #[(Value.int .i64 0), (Value.int .i64 5)])) w_v17) (∃ (a_v20 : Addr) (n_v21 c_v22 : Nat), rv = Value.slice (some a_v20) n_v21 c_v22 ∧ ((0 : Int) ≤ t_v19 ∧ t_v19 < (n_v21 : Int)) ∧ ∃ t_v23 : Int, w_v17.cell? (a_v20.add (Int.toNat t_v19 * 1)) = some (Value.int .i64 t_v23) ∧ Ret w _ (.returned (.tuple #[(Value.int .i64 t_v23), (Value.int .i64 0)])) w_v17)) hs hl hh hb hT (fun w' g hne => ⟨?_, g⟩) fun rv cv w' g h0 hR hrv hcv => ?_
  · rw [if_neg hne, if_neg hne]
  · refine (indexI_c hcv).mono ?_
    rintro e w17 ⟨rfl, g17⟩
    rw [if_pos h0, if_pos h0]
    refine ⟨_, rfl, ?_⟩
    rcases idx_find (cntM b L) (allR (klS s) L) with ⟨hlt, hf⟩ | ⟨k, hk, e, hf⟩
    · have e2 : cntrO s b L = none := hf
      refine cT (decide_eq_true hlt) ⟨?_, g.trans g17⟩
      rw [e2]; rfl
    · have e2 : cntrO s b L = some (allR (klS s) L)[k] := hf
      have e' : idxOf (fun y => decide ((0 : Int) = y)) (natI (cnts s b L)) = k := e
      rw [e']
      refine cF (decide_eq_false (by omega)) ((hrv.grow g17).rd rfl (by rw [natI_len]; exact hk) ⟨?_, g.trans g17⟩)
      rw [natI_get hk, e2]; rfl
theorem share_c (hs : SlI w sv s) (hl : SlA w fv L) (hh : SlI w hv h) (hb : SlA w bv b) (hT : Tab w) :
    Calls Tryd.prog 23 #[sv, fv, .agg #[hv, bv]] w (Ret w (.tuple #[.int .i64 (if askE true s h b L = 0 then (shareN s b L : Int) else 0), .int .i64 (if askE true s h b L = 0 then ((allR (klS s) L).length : Int) else 0), .int .i64 (askE true s h b L)])) := by
  refine f23_calls _ _ _ ⟨_, rfl, ?_⟩
  refine quest_c (K := fun _ _ => True) (N := fun z w9 => Ret w _ (.returned (.tuple #[(Value.int .i64 0), (Value.int .i64 0), (Value.int .i64 z)])) w9) (F := fun _ rv cv w13 => ∃ (a_v17 : Option Addr) (n_v18 c_v19 : Nat), cv = Value.slice a_v17 n_v18 c_v19 ∧ ∃ (I_v20 : Int → Int → World → Prop) (μ_v21 : Int → Int → World → Nat), I_v20 0 0 w13 ∧ ∀ (j_v22 : Nat → Value) (yes_v23 : Int) (t_v24 : Int) (w_v25 : World), I_v20 yes_v23 t_v24 w_v25 → condP (decide (t_v24 < ((n_v18 : Int) : Int))) (∃ (a_v26 : Addr) (n_v27 c_v28 : Nat), cv = Value.slice (some a_v26) n_v27 c_v28 ∧ ((0 : Int) ≤ t_v24 ∧ t_v24 < (n_v27 : Int)) ∧ ∃ t_v29 : Int, w_v25.cell? (a_v26.add (Int.toNat t_v24 * 1)) = some (Value.int .i64 t_v29) ∧ inR (yes_v23 + (if 1 < t_v29 then 1 else t_v29)) ∧ inR (t_v24 + 1) ∧ (I_v20 (yes_v23 + (if 1 < t_v29 then 1 else t_v29)) (t_v24 + 1) w_v25 ∧ μ_v21 (yes_v23 + (if 1 < t_v29 then 1 else t_v29)) (t_v24 + 1) w_v25 < μ_v21 yes_v23 t_v24 w_v25)) (∃ (a_v30 : Option Addr) (n_v31 c_v32 : Nat), cv = Value.slice a_v30 n_v31 c_v32 ∧ Ret w _ (.returned (.tuple #[(Value.int .i64 yes_v23), (Value.int .i64 (n_v31 : Int)), (Value.int .i64 0)])) w_v25)) hs hl hh hb hT (fun w' g hne => ⟨?_, g⟩) fun rv cv w' g h0 hR hrv hcv => ?_
  · rw [if_neg hne, if_neg hne]
  · have hll : (natI (cnts s b L)).length = (allR (klS s) L).length := by rw [natI_len, cnts, List.length_map]
    have h4096 := allR_len (klS s) L (okR_out hR).2.1
    refine hcv.ln ?_
    rw [hll]
    refine ⟨fun yes t w2 => ∃ k : Nat, t = k ∧ k ≤ (allR (klS s) L).length ∧ yes = ((((allR (klS s) L).take k).filter fun m => decide (cntM b L m ≠ 0)).length : Int) ∧ w2 = w', fun _ t _ => (allR (klS s) L).length - t.toNat, ⟨0, rfl, by omega, rfl, rfl⟩, ?_⟩
    rintro - yes t w25 ⟨k, rfl, hk, rfl, rfl⟩
    refine condD (fun hlt => ?_) fun hge => ?_
    · have hkl : k < (allR (klS s) L).length := by omega
      refine hcv.rd rfl (by rw [hll]; exact hkl) ?_
      have e : (natI (cnts s b L))[k]'(by rw [hll]; exact hkl) = (cntM b L (allR (klS s) L)[k] : Int) := by
        rw [natI_get (by rw [cnts, List.length_map]; exact hkl)]
        simp [cnts]
      rw [e]
      have hfl := List.length_filter_le (fun m => decide (cntM b L m ≠ 0)) ((allR (klS s) L).take k)
      rw [List.length_take] at hfl
      have step : ((((allR (klS s) L).take k).filter fun m => decide (cntM b L m ≠ 0)).length : Int) + (if (1 : Int) < (cntM b L (allR (klS s) L)[k] : Int) then 1 else (cntM b L (allR (klS s) L)[k] : Int)) = ((((allR (klS s) L).take (k + 1)).filter fun m => decide (cntM b L m ≠ 0)).length : Int) := by
        rw [List.take_succ_eq_append_getElem hkl, List.filter_append, List.length_append]
        by_cases h9 : cntM b L (allR (klS s) L)[k] = 0
        · simp [h9]
        · have : ([(allR (klS s) L)[k]].filter fun m => decide (cntM b L m ≠ 0)).length = 1 := by simp [h9]
          rw [this]
          split <;> omega
      rw [step]
      have hfl2 := List.length_filter_le (fun m => decide (cntM b L m ≠ 0)) ((allR (klS s) L).take (k + 1))
      rw [List.length_take] at hfl2
      exact ⟨by unfold inR; omega, by unfold inR; omega, ⟨k + 1, by omega, by omega, rfl, rfl⟩, by dsimp only; omega⟩
    · have : k = (allR (klS s) L).length := by omega
      subst this
      refine hcv.ln ?_
      rw [hll, List.take_length, if_pos h0, if_pos h0, h0]
      exact ⟨rfl, g⟩
def RangeR (w : World) (s h : List Int) (b L : List Atm) : Ending → World → Prop := fun e w' => ∃ lo hi : Int, e = .returned (.tuple #[.int .i64 lo, .int .i64 hi, .int .i64 (askE false s h b L)]) ∧ (askE false s h b L ≠ 0 → lo = 0 ∧ hi = 0) ∧ (askE false s h b L = 0 → lo ∈ natI (cnts s b L) ∧ hi ∈ natI (cnts s b L) ∧ ∀ x ∈ natI (cnts s b L), lo ≤ x ∧ x ≤ hi) ∧ Grow w w'
end
end Go.Proofs.YtmjpnfapjcfejaaDoor
