/- Contracts: what the statements about repairs have in common. The table of bits is laid where it is asked (Tab). -/
import Derived.Test.YtmjpnfapjcfejaaDoorRf
namespace Go.Proofs.YtmjpnfapjcfejaaDoor
open Go Go.RowKit VC
set_option linter.unusedSimpArgs false
set_option linter.unusedVariables false

theorem few7_c {w : World} {v : Value} {xs : List Int} (hs : SlI w v xs) : Calls Tryd.prog 7 #[v] w fun e w' => ∃ v', e = .returned v' ∧ OwnI w' w.heap.size v' (xs.take 9) ∧ Grow w w' := by
  refine f7_calls _ ?_
  have hle := hs.len_le
  have e : (if 9 < (xs.length : Int) then (9 : Int) else xs.length) = ((min 9 xs.length : Nat) : Int) := by split <;> omega
  refine hs.ln ?_
  rw [e]
  obtain ⟨a, n, c, e1, l, h, m, h2, hv'⟩ := hs.upto (i := min 9 xs.length) (k := .i64) (K := fun x => SlI w x (xs.take 9)) rfl (by omega) fun v' hv' => by rwa [take_min] at hv'
  refine ⟨a, n, c, e1, l, h, m, h2, (clone_c hv' (by simp; omega)).mono ?_⟩
  rintro e w1 ⟨u, rfl, ho, g1⟩
  exact ⟨u, rfl, u, rfl, ho, g1⟩
theorem fill_three {A : Array Value} (h : A.size = 6) {a0 a1 b0 b1 c0 c1 : Value} : Instr.fill (fun i => some (i * 2, 2)) A [(0, .agg #[a0, a1]), (1, .agg #[b0, b1]), (2, .agg #[c0, c1])] = some #[a0, a1, b0, b1, c0, c1] := by
  obtain ⟨l⟩ := A
  match l, h with
  | [x0, x1, x2, x3, x4, x5], _ => rfl
theorem bs3 {P : Program} {t e : TypeId} {bytes : Nat} {z : Value} (hT : ElT P t e 2 bytes z) {a0 a1 b0 b1 c0 c1 : Value} (w : World) {K : Value → World → Prop}
    (hk : ∀ w', w' = w.alloc (.cells #[a0, a1, b0, b1, c0, c1] e) → K (.slice (some ⟨w.heap.size, 0, none⟩) 3 3) w') : ∃ v : Value, ∃ w' : World, (Instr.buildSlice t 3 #[(0, .agg #[a0, a1]), (1, .agg #[b0, b1]), (2, .agg #[c0, c1])]).run P w = .ok v w' ∧ K v w' := by
  obtain ⟨i, hi, hz, hsize, hby⟩ := hT.info
  refine ⟨_, _, ?_, hk _ rfl⟩
  have hs : (sizeOf e).run P w = .ok 2 w := by simp [sizeOf, typeInfo, hi, hsize]
  have hzr : (zeroValue e).run P w = .ok z w := by simp [zeroValue, typeInfo, hi, hz]
  simp only [Instr.buildSlice, Sem.run_bind, underlying_run hT.und, Result.andThen_ok, hs]
  rw [if_neg (by omega), if_neg (by omega)]
  have hf := fill_three (A := (Array.range (3 * 2)).map fun j => z.cells[j % z.cells.size]!) (by simp) (a0 := a0) (a1 := a1) (b0 := b0) (b1 := b1) (c0 := c0) (c1 := c1)
  simp only [Sem.run_bind, hzr, Result.andThen_ok, Sem.run_pure, hf, newRow, run_newObj]
  rfl
theorem awake7_val : okR [1, 1, 1, 1, 1, 1] [(0, [1, 2]), (0, [1, 3]), (0, [2, 3])] = true ∧ blksL [1, 1, 1, 1, 1, 1] [(0, [1, 2]), (0, [1, 3]), (0, [2, 3])] = [0, 0, 2] := by decide +kernel
theorem awake7_c {w : World} : Calls Tryd.prog 13 #[] w (Ret w (.bool true)) := by
  refine f13_calls ?_
  intro w1 hw1 w2 hw2
  have g1 := alloc_grow hw1
  have g2 := alloc_grow hw2
  have hs := slI_lit (xs := [1, 1, 1, 1, 1, 1]) hw1 rfl (by simp)
  have h1 := slI_lit (xs := [1, 2]) hw2 rfl (by simp)
  refine ⟨SlI.one h1, fun w3 hw3 => ?_⟩
  have g3 := alloc_grow hw3
  have h2 := slI_lit (xs := [1, 3]) hw3 rfl (by simp)
  refine ⟨SlI.one h2, fun w4 hw4 => ?_⟩
  have g4 := alloc_grow hw4
  have h3 := slI_lit (xs := [2, 3]) hw4 rfl (by simp)
  refine ⟨SlI.one h3, bs3 el_fact w4 fun w5 hw5 => ?_⟩
  have g5 := alloc_grow hw5
  have hl : SlA w5 (.slice (some ⟨w4.heap.size, 0, none⟩) 3 3) [(0, [1, 2]), (0, [1, 3]), (0, [2, 3])] := by
    have h := Own.lit (B := w4.heap.size) (n := 3) (sz := 2) hw5 (Nat.le_refl _) (by omega) (by simp)
    have := SlX.of_cells (k := 2) (rep := repA) (w := w5) (v := .slice (some ⟨w4.heap.size, 0, none⟩) 3 3) (ps := [([.int .i64 0, .slice (some ⟨w1.heap.size, 0, none⟩) 2 2], (0, [1, 2])), ([.int .i64 0, .slice (some ⟨w2.heap.size, 0, none⟩) 2 2], (0, [1, 3])), ([.int .i64 0, .slice (some ⟨w3.heap.size, 0, none⟩) 2 2], (0, [2, 3]))]) (fun p hp => by
      simp only [List.mem_cons, List.not_mem_nil, or_false] at hp
      rcases hp with rfl | rfl | rfl
      · exact ⟨rfl, _, rfl, SlI.grow h1 ((g3.trans g4).trans g5)⟩
      · exact ⟨rfl, _, rfl, SlI.grow h2 (g4.trans g5)⟩
      · exact ⟨rfl, _, rfl, SlI.grow h3 g5⟩) (by simpa using h.slC)
    simpa using this
  have g05 := (((g1.trans g2).trans g3).trans g4).trans g5
  refine (blocks_c (SlI.grow hs (((g2.trans g3).trans g4).trans g5)) hl).mono ?_
  rintro e w7 ⟨v, rfl, hv, g7⟩
  rw [if_pos awake7_val.1, awake7_val.2] at hv
  refine ⟨_, _, rfl, cT (by rw [if_pos awake7_val.1]; rfl) fun w11 hw11 => ?_⟩
  have g11 := alloc_grow hw11
  have hr := slI_lit (xs := [0, 0, 2]) hw11 rfl (by simp)
  refine (equal_c (hv.grow g11) hr).mono ?_
  rintro e w12 ⟨rfl, g12⟩
  exact ⟨_, rfl, by simp, ((g05.trans g7).trans g11).trans g12⟩
section
variable {w : World} {sv fv hv bv : Value} {s h : List Int} {b L : List Atm}
/-- few(s), Facts(facts), Of(q), in every order of evaluation. -/
theorem args7 {aq : Addr} (hs : SlI w sv s) (hl : SlA w fv L) (hh : SlI w hv h) (hb : SlA w bv b) (hQ : ∀ {E}, Grow w E → ∀ (j : Nat) (v : Value), [hv, bv][j]? = some v → E.cell? (Addr.add aq j) = some v) {F : Value → Value → Value → World → Prop}
    (hk : ∀ s1 f1 h1 b1 w', SlI w' s1 (s.take 9) → SlA w' f1 (trF L) → SlI w' h1 (h.take 9) → SlA w' b1 (trB b) → Grow w w' → F s1 f1 (.agg #[h1, b1]) w') :
    ∀ m_v3 : DM w, (Calls Tryd.prog 7 #[sv] (dr w m_v3.1) fun e_v5 w_v4 => ∃ t_v6 : Value, e_v5 = .returned t_v6 ∧ (Calls Tryd.prog 8 #[fv] w_v4 fun e_v8 w_v7 => ∃ t_v9 : Value, e_v8 = .returned t_v9 ∧ ∃ cs_v10 : List Value, cs_v10.length = 2 ∧ (∀ (j : Nat) (v : Value), cs_v10[j]? = some v → w_v7.cell? (Addr.add aq j) = some v) ∧ Calls Tryd.prog 9 #[(Value.agg cs_v10.toArray)] w_v7 fun e_v12 w_v11 => ∃ t_v13 : Value, e_v12 = .returned t_v13 ∧ F t_v6 t_v9 t_v13 w_v11) ∧
      (∃ cs_v34 : List Value, cs_v34.length = 2 ∧ (∀ (j : Nat) (v : Value), cs_v34[j]? = some v → w_v4.cell? (Addr.add aq j) = some v) ∧ Calls Tryd.prog 8 #[fv] w_v4 fun e_v36 w_v35 => ∃ t_v37 : Value, e_v36 = .returned t_v37 ∧ Calls Tryd.prog 9 #[(Value.agg cs_v34.toArray)] w_v35 fun e_v39 w_v38 => ∃ t_v40 : Value, e_v39 = .returned t_v40 ∧ F t_v6 t_v37 t_v40 w_v38)) ∧
      (∃ cs_v61 : List Value, cs_v61.length = 2 ∧ (∀ (j : Nat) (v : Value), cs_v61[j]? = some v → (dr w m_v3.1).cell? (Addr.add aq j) = some v) ∧ Calls Tryd.prog 7 #[sv] (dr w m_v3.1) fun e_v63 w_v62 => ∃ t_v64 : Value, e_v63 = .returned t_v64 ∧ Calls Tryd.prog 8 #[fv] w_v62 fun e_v66 w_v65 => ∃ t_v67 : Value, e_v66 = .returned t_v67 ∧ Calls Tryd.prog 9 #[(Value.agg cs_v61.toArray)] w_v65 fun e_v69 w_v68 => ∃ t_v70 : Value, e_v69 = .returned t_v70 ∧ F t_v64 t_v67 t_v70 w_v68) := by
  intro d
  have gd : Grow w (dr w d.1) := (Grow.refl w).dr d.1
  have cs : ∀ {Q : Ending → World → Prop}, (∀ v E, SlI E v (s.take 9) → Grow (dr w d.1) E → Q (.returned v) E) → Calls Tryd.prog 7 #[sv] (dr w d.1) Q := fun hq => (few7_c (hs.grow gd)).mono (by
    rintro e E ⟨v, rfl, ho, g⟩
    exact hq v E (Own.slI ho) g)
  have cf : ∀ {E0} {Q : Ending → World → Prop}, Grow w E0 → (∀ v E, SlA E v (trF L) → Grow E0 E → Q (.returned v) E) → Calls Tryd.prog 8 #[fv] E0 Q := fun g0 hq => (factsS_c (hl.gr g0)).mono (by
    rintro e E ⟨v, rfl, ho, g⟩
    exact hq v E ho g)
  have cq : ∀ {E0} {Q : Ending → World → Prop}, Grow w E0 → (∀ h1 b1 E, SlI E h1 (h.take 9) → SlA E b1 (trB b) → Grow E0 E → Q (.returned (.agg #[h1, b1])) E) → Calls Tryd.prog 9 #[.agg #[hv, bv]] E0 Q := fun g0 hq => (ofS_c (hh.grow g0) (hb.gr g0)).mono (by
    rintro e E ⟨h1, b1, rfl, o1, o2, g⟩
    exact hq h1 b1 E o1 o2 g)
  refine ⟨cs fun v1 E1 o1 g1 => ⟨v1, rfl, cf (gd.trans g1) fun v2 E2 o2 g2 => ⟨v2, rfl, [_, _], rfl, hQ ((gd.trans g1).trans g2), cq ((gd.trans g1).trans g2) fun h1 b1 E3 o3 o4 g3 => ⟨_, rfl, ?_⟩⟩, [_, _], rfl, hQ (gd.trans g1), cf (gd.trans g1) fun v2 E2 o2 g2 => ⟨v2, rfl, cq ((gd.trans g1).trans g2) fun h1 b1 E3 o3 o4 g3 => ⟨_, rfl, ?_⟩⟩⟩, [_, _], rfl, hQ gd, cs fun v1 E1 o1 g1 => ⟨v1, rfl, cf (gd.trans g1) fun v2 E2 o2 g2 => ⟨v2, rfl, cq ((gd.trans g1).trans g2) fun h1 b1 E3 o3 o4 g3 => ⟨_, rfl, ?_⟩⟩⟩⟩
  · exact hk _ _ _ _ _ (o1.grow (g2.trans g3)) (o2.gr g3) o3 o4 (((gd.trans g1).trans g2).trans g3)
  · exact hk _ _ _ _ _ (o1.grow (g2.trans g3)) (o2.gr g3) o3 o4 (((gd.trans g1).trans g2).trans g3)
  · exact hk _ _ _ _ _ (o1.grow (g2.trans g3)) (o2.gr g3) o3 o4 (((gd.trans g1).trans g2).trans g3)
end
end Go.Proofs.YtmjpnfapjcfejaaDoor
