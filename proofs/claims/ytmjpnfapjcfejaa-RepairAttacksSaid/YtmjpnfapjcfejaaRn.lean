/- Contracts: what the statements about repairs have in common. The table of bits is laid where it is asked (Tab). -/
import Derived.Test.YtmjpnfapjcfejaaRf
namespace Go.Proofs.Ytmjpnfapjcfejaa
open Go Go.RowKit VC
set_option linter.unusedSimpArgs false
set_option linter.unusedVariables false

theorem few7_c {w : World} {v : Value} {xs : List Int} (hs : SlI w v xs) : Calls Try.prog 6 #[v] w fun e w' => ∃ v', e = .returned v' ∧ OwnI w' w.heap.size v' (xs.take 9) ∧ Grow w w' := by
  refine f6_calls _ ?_
  have hle := hs.len_le
  have e : (if 9 < (xs.length : Int) then (9 : Int) else xs.length) = ((min 9 xs.length : Nat) : Int) := by split <;> omega
  refine hs.ln ?_
  rw [e]
  obtain ⟨a, n, c, e1, l, h, m, h2, hv'⟩ := hs.upto (i := min 9 xs.length) (k := .i64) (K := fun x => SlI w x (xs.take 9)) rfl (by omega) fun v' hv' => by rwa [take_min] at hv'
  refine ⟨a, n, c, e1, l, h, m, h2, (clone_c hv' (by simp; omega)).mono ?_⟩
  rintro e w1 ⟨u, rfl, ho, g1⟩
  exact ⟨u, rfl, u, rfl, ho, g1⟩
theorem fill_three {A : Array Value} (h : A.size = 6) {a0 a1 b0 b1 c0 c1 : Value} : Instr.fill (fun i => some (i * 2, 2)) A [(0, .agg #[a0, a1]), (1, .agg #[b0, b1]), (2, .agg #[c0, c1])] = some #[a0, a1, b0, b1, c0, c1] := by
  obtain ⟨l⟩ := A
  match l, h with
  | [x0, x1, x2, x3, x4, x5], _ => rfl
theorem bs3 {P : Program} {t e : TypeId} {bytes : Nat} {z : Value} (hT : ElT P t e 2 bytes z) {a0 a1 b0 b1 c0 c1 : Value} (w : World) {K : Value → World → Prop}
    (hk : ∀ w', w' = w.alloc (.cells #[a0, a1, b0, b1, c0, c1] e) → K (.slice (some ⟨w.heap.size, 0, none⟩) 3 3) w') : ∃ v : Value, ∃ w' : World, (Instr.buildSlice t 3 #[(0, .agg #[a0, a1]), (1, .agg #[b0, b1]), (2, .agg #[c0, c1])]).run P w = .ok v w' ∧ K v w' := by
  obtain ⟨i, hi, hz, hsize, hby⟩ := hT.info
  refine ⟨_, _, ?_, hk _ rfl⟩
  have hs : (sizeOf e).run P w = .ok 2 w := by simp [sizeOf, typeInfo, hi, hsize]
  have hzr : (zeroValue e).run P w = .ok z w := by simp [zeroValue, typeInfo, hi, hz]
  simp only [Instr.buildSlice, Sem.run_bind, underlying_run hT.und, Result.andThen_ok, hs]
  rw [if_neg (by omega), if_neg (by omega)]
  have hf := fill_three (A := (Array.range (3 * 2)).map fun j => z.cells[j % z.cells.size]!) (by simp) (a0 := a0) (a1 := a1) (b0 := b0) (b1 := b1) (c0 := c0) (c1 := c1)
  simp only [Sem.run_bind, hzr, Result.andThen_ok, Sem.run_pure, hf, newRow, run_newObj]
  rfl
theorem awake7_val : okR [1, 1, 1, 1, 1, 1] [(0, [1, 2]), (0, [1, 3]), (0, [2, 3])] = true ∧ blksL [1, 1, 1, 1, 1, 1] [(0, [1, 2]), (0, [1, 3]), (0, [2, 3])] = [0, 0, 2] := by decide +kernel
theorem awake7_c {w : World} : Calls Try.prog 11 #[] w (Ret w (.bool true)) := by
  refine f11_calls ?_
  intro w1 hw1 w2 hw2
  have g1 := alloc_grow hw1
  have g2 := alloc_grow hw2
  have hs := slI_lit (xs := [1, 1, 1, 1, 1, 1]) hw1 rfl (by simp)
  have h1 := slI_lit (xs := [1, 2]) hw2 rfl (by simp)
  refine ⟨SlI.one h1, fun w3 hw3 => ?_⟩
  have g3 := alloc_grow hw3
  have h2 := slI_lit (xs := [1, 3]) hw3 rfl (by simp)
  refine ⟨SlI.one h2, fun w4 hw4 => ?_⟩
  have g4 := alloc_grow hw4
  have h3 := slI_lit (xs := [2, 3]) hw4 rfl (by simp)
  refine ⟨SlI.one h3, bs3 el_fact w4 fun w5 hw5 => ?_⟩
  have g5 := alloc_grow hw5
  have hl : SlA w5 (.slice (some ⟨w4.heap.size, 0, none⟩) 3 3) [(0, [1, 2]), (0, [1, 3]), (0, [2, 3])] := by
    have h := Own.lit (B := w4.heap.size) (n := 3) (sz := 2) hw5 (Nat.le_refl _) (by omega) (by simp)
    have := SlX.of_cells (k := 2) (rep := repA) (w := w5) (v := .slice (some ⟨w4.heap.size, 0, none⟩) 3 3) (ps := [([.int .i64 0, .slice (some ⟨w1.heap.size, 0, none⟩) 2 2], (0, [1, 2])), ([.int .i64 0, .slice (some ⟨w2.heap.size, 0, none⟩) 2 2], (0, [1, 3])), ([.int .i64 0, .slice (some ⟨w3.heap.size, 0, none⟩) 2 2], (0, [2, 3]))]) (fun p hp => by
      simp only [List.mem_cons, List.not_mem_nil, or_false] at hp
      rcases hp with rfl | rfl | rfl
      · exact ⟨rfl, _, rfl, SlI.grow h1 ((g3.trans g4).trans g5)⟩
      · exact ⟨rfl, _, rfl, SlI.grow h2 (g4.trans g5)⟩
      · exact ⟨rfl, _, rfl, SlI.grow h3 g5⟩) (by simpa using h.slC)
    simpa using this
  have g05 := (((g1.trans g2).trans g3).trans g4).trans g5
  refine (blocks_c (SlI.grow hs (((g2.trans g3).trans g4).trans g5)) hl).mono ?_
  rintro e w7 ⟨v, rfl, hv, g7⟩
  rw [if_pos awake7_val.1, awake7_val.2] at hv
  refine ⟨_, _, rfl, cT (by rw [if_pos awake7_val.1]; rfl) fun w11 hw11 => ?_⟩
  have g11 := alloc_grow hw11
  have hr := slI_lit (xs := [0, 0, 2]) hw11 rfl (by simp)
  refine (equal_c (hv.grow g11) hr).mono ?_
  rintro e w12 ⟨rfl, g12⟩
  exact ⟨_, rfl, by simp, ((g05.trans g7).trans g11).trans g12⟩
section
variable {w : World} {sv fv hv bv : Value} {s h : List Int} {b L : List Atm}
end
end Go.Proofs.Ytmjpnfapjcfejaa
