/- Contracts of package chordal: Model. The table of bits is laid (Tab). -/
import Derived.Test.YtmpjanpmkmlloaaDoorCr
import Derived.Test.YtmpjanpmkmlloaaDoorCq
import Derived.Test.YtmpjanpmkmlloaaDoorVo
namespace Go.Proofs.YtmpjanpmkmlloaaDoor
open Go Go.RowKit VC
set_option linter.unusedSimpArgs false
set_option linter.unusedVariables false

theorem cT {b : Bool} {x y : Prop} (h : b = true) (hx : x) : condP b x y := condP_i (fun _ => hx) fun h' => by rw [h] at h'; cases h'
theorem cF {b : Bool} {x y : Prop} (h : b = false) (hy : y) : condP b x y := condP_i (fun h' => by rw [h] at h'; cases h') fun _ => hy
theorem own_setz {w w' : World} {B : Nat} {e : TypeId} {g n cap i sz : Nat} {cs : List Value} {u : Value} (h : Own w B e sz (.slice (some ⟨g, 0, none⟩) n cap) n cs) (hi : i < n * sz) (hw : w' = w.setCell ⟨g, i, none⟩ u) : Own w' B e sz (.slice (some ⟨g, 0, none⟩) n cap) n (cs.set i u) := by
  subst hw
  refine ⟨by simpa using h.1, .inr ?_⟩
  rcases h.2 with ⟨h1, _⟩ | ⟨g', cap', cur, he, hb, hgg, hnc, hcm, hcs, htake⟩
  · cases h1
  · simp only [Value.slice.injEq, Option.some.injEq, Addr.mk.injEq, and_true, true_and] at he
    obtain ⟨rfl, rfl⟩ := he
    refine ⟨g, cap, cur.setIfInBounds i u, rfl, hb, ?_, hnc, hcm, by simpa using hcs, ?_⟩
    · simp [World.setCell, Array.getElem?_modify, hgg]
    · rw [Array.toList_setIfInBounds, List.take_set, htake]
theorem own_wrz {w : World} {B : Nat} {e : TypeId} {g n cap i sz : Nat} {cs : List Value} (h : Own w B e sz (.slice (some ⟨g, 0, none⟩) n cap) n cs) (hi : i < n * sz) : (∃ old, w.cell? ⟨g, i, none⟩ = some old) ∧ w.frozen? ⟨g, i, none⟩ = false := by
  rcases h.2 with ⟨h1, _⟩ | ⟨g', cap', cur, he, hb, hgg, hnc, hcm, hcs, htake⟩
  · cases h1
  · simp only [Value.slice.injEq, Option.some.injEq, Addr.mk.injEq, and_true, true_and] at he
    obtain ⟨rfl, rfl⟩ := he
    have hl : i < cur.size := by
      have := Nat.mul_le_mul_right sz hnc
      omega
    refine ⟨⟨cur[i], ?_⟩, ?_⟩
    · simp [World.cell?, hgg, hl]
    · simp [World.frozen?, hgg]
def cells2 (n : Nat) (val : Nat → Int) : List Value := (List.range (n * 2)).map fun j => .int .i64 (val j)
theorem cells2_set {n j : Nat} {val : Nat → Int} {u : Int} (hj : j < n * 2) : (cells2 n val).set j (.int .i64 u) = cells2 n fun i => if i = j then u else val i := by
  apply List.ext_getElem
  · simp [cells2]
  · intro i h1 h2
    rw [List.getElem_set]
    by_cases e : i = j
    · subst e; simp [cells2]
    · have : ¬ j = i := fun x => e x.symm
      simp [cells2, e, this]
theorem made2 (n : Nat) : (madeCells #[Value.int .i64 0, Value.int .i64 0] (n * 2)).toList = cells2 n fun _ => 0 := by
  apply List.ext_getElem
  · simp [madeCells, cells2]
  · intro i h1 h2
    simp only [madeCells, cells2, Array.toList_map, List.getElem_map]
    rcases (show i % 2 = 0 ∨ i % 2 = 1 by omega) with h | h <;> simp [h]
/-- A slice of pairs of ints. -/
def spC (ps : List (Int × Int)) : List Value := ps.flatMap fun p => [.int .i64 p.1, .int .i64 p.2]
def SlP (w : World) (v : Value) (ps : List (Int × Int)) : Prop := SlC w v ps.length (spC ps)
theorem cells2_sp {val : Nat → Int} : ∀ n, cells2 n val = spC ((List.range n).map fun x => (val (2 * x), val (2 * x + 1)))
  | 0 => rfl
  | n + 1 => by
    have ih := cells2_sp (val := val) n
    unfold cells2 spC at *
    rw [show (n + 1) * 2 = n * 2 + 1 + 1 by omega, List.range_succ, List.range_succ, List.range_succ, List.map_append, List.map_append, List.map_append, List.flatMap_append, ← ih]
    simp [show 2 * n = n * 2 by omega]
theorem bitN {c x : Nat} (hx : x < 12) : (iAnd .i64 (iShr .i64 (c : Int) (x : Int)) 1 = 1) ↔ c.testBit x = true := by
  rw [iBit _ (by omega), ibit_nat]
  cases c.testBit x <;> simp
theorem model_lit_c {w : World} {a : Addr} {x c : Nat} (h : w.cell? a = some (.int .i64 (x : Int))) (hx : x < 12) : Calls Tryd.prog 81 #[.int .i64 (c : Int), .pointer (some a)] w (Ret w (.bool (c.testBit x))) := by
  refine f81_calls _ _ ?_
  refine ⟨_, h, by omega, ?_, Grow.refl w⟩
  have : decide (iAnd .i64 (iShr .i64 (c : Int) (x : Int)) 1 = 1) = c.testBit x := by rw [Bool.eq_iff_iff, decide_eq_true_eq, bitN hx]
  rw [this]
theorem frm_idx {row : List Nat} {x : Nat} : idxOf (fun c => c.toNat.testBit x) (ofN row) = frm row x := by
  have h : (ofN row).findIdx? (fun c => c.toNat.testBit x) = row.findIdx? (fun c => c.testBit x) := by
    unfold ofN
    rw [List.findIdx?_map]
    rfl
  unfold idxOf frm
  rw [h]
  rfl
theorem Model_no {w : World} {v : Value} {G : List Int} (hs : SlI w v G) (hv : ¬ VG G) : Calls Tryd.prog 31 #[v] w (Ret w (.tuple #[.slice none 0 0, .int .i64 2])) := by
  refine f31_calls _ ?_
  refine (chordal_no hs hv).mono ?_
  rintro e w1 ⟨rfl, g1⟩
  exact ⟨2, rfl, rfl, g1⟩
def spansOf (N : List Nat) : List (Int × Int) := (List.range N.length).map fun x => (frm (rowOf N) x, (tto (rowOf N) x : Int))
theorem Model_none {w : World} {v : Value} {N : List Nat} (hs : SlI w v (ofN N)) (hN : VN N) (hT : Tab w) (hbad : ordG N = none ∨ (firstA N).isSome = true) : Calls Tryd.prog 31 #[v] w (Ret w (.tuple #[.slice none 0 0, .int .i64 5])) := by
  refine f31_calls _ ?_
  refine (chordal_c hs hN hT).mono ?_
  rintro e w1 ⟨rfl, g1⟩
  refine ⟨_, rfl, condP_i (fun h => ?_) fun _ => ?_⟩
  · cases hso : (ordG N).isSome with
    | true => rw [hso] at h; simp at h
    | false => rw [hso] at h; simp at h
  refine (Apart_c (hs.grow g1) hN (hT.grow g1)).mono ?_
  rintro e w2 ⟨rfl, g2⟩
  refine ⟨_, _, rfl, fun w3 hw3 => ?_⟩
  have g3 := alloc_grow hw3
  have hrow : w3.heap[w2.heap.size]? = some (.cells (v3 0 0 0) 45 (0, 0)) := by subst hw3; exact heap_alloc_new w2 _
  obtain ⟨a, b, c, ha⟩ : ∃ a b c, atA (firstA N) = v3 a b c := by
    cases firstA N with
    | none => exact ⟨0, 0, 0, rfl⟩
    | some t => obtain ⟨a, b, c⟩ := t; exact ⟨a, b, c, rfl⟩
  rw [ha]
  obtain ⟨w4, hr, hf, hrow4⟩ := store_row (P := Tryd.prog) (cs := v3 a b c) hrow rfl (v3_one _ _ _)
  have g04 : Grow w w4 := ((g1.trans g2).trans g3).fr hf fun i hi e => by have := (g1.trans g2).size; omega
  refine ⟨_, rfl, rfl, w4, hr, condP_i (fun _ => ⟨rfl, g04⟩) fun h => ?_⟩
  rcases hbad with hb | hb
  · rw [hb] at h; simp at h
  · rw [hb]
    exact condP_i (fun _ => ⟨rfl, g04⟩) fun h => by simp at h
theorem Model_c {w : World} {v : Value} {N : List Nat} (hs : SlI w v (ofN N)) (hN : VN N) (hT : Tab w) (ho : (ordG N).isSome = true) (hat : firstA N = none) : Calls Tryd.prog 31 #[v] w fun e w' => ∃ u, e = .returned (.tuple #[u, .int .i64 0]) ∧ SlP w' u (spansOf N) ∧ Grow w w' := by
  refine f31_calls _ ?_
  have h12 := hN.le
  refine (chordal_c hs hN hT).mono ?_
  rintro e w1 ⟨rfl, g1⟩
  rw [ho]
  refine ⟨_, rfl, condP_i (fun h => by simp at h) fun _ => ?_⟩
  refine (Apart_c (hs.grow g1) hN (hT.grow g1)).mono ?_
  rintro e w2 ⟨rfl, g2⟩
  rw [hat]
  refine ⟨_, _, rfl, fun w3 hw3 => ?_⟩
  have g3 := alloc_grow hw3
  have hrow : w3.heap[w2.heap.size]? = some (.cells (v3 0 0 0) 45 (0, 0)) := by subst hw3; exact heap_alloc_new w2 _
  obtain ⟨w4, hr, hf, hrow4⟩ := store_row (P := Tryd.prog) (cs := v3 0 0 0) hrow rfl (v3_one _ _ _)
  have g04 : Grow w w4 := ((g1.trans g2).trans g3).fr hf fun i hi e => by have := (g1.trans g2).size; omega
  refine ⟨_, rfl, rfl, w4, hr, condP_i (fun h => by simp at h) fun _ => condP_i (fun h => by simp at h) fun _ => ?_⟩
  refine (lined_c (hs.grow g04) hN (hT.grow g04) ho).mono ?_
  rintro e w5 ⟨rv, rfl, hrv, g5⟩
  have g05 := g04.trans g5
  refine ⟨rv, rfl, (hs.grow g05).ln ?_⟩
  rw [ofN_len]
  refine ⟨⟨by omega, by omega, by omega, by omega⟩, fun w6 hw6 => ?_⟩
  have hn : Int.toNat (N.length : Int) = N.length := Int.toNat_natCast _
  rw [hn] at hw6
  simp only [hn]
  have g6 := alloc_grow hw6
  have s6 := alloc_size hw6
  have ho6 : Own w6 w5.heap.size 72 2 (.slice (some ⟨w5.heap.size, 0, none⟩) N.length N.length) N.length (cells2 N.length fun _ => 0) := by
    have := Own.lit (n := N.length) (sz := 2) hw6 (Nat.le_refl _) (by omega) (by simp [madeCells])
    rwa [made2] at this
  refine (hs.grow g05).ln ?_
  rw [ofN_len]
  obtain ⟨row, hrowdef⟩ : ∃ row, row = rowOf N := ⟨_, rfl⟩
  rw [← hrowdef] at hrv
  refine ⟨fun t w' => ∃ (x : Nat) (val : Nat → Int), t = x ∧ x ≤ N.length ∧ Fr (fun k => k = w5.heap.size) w6 w' ∧ Own w' w5.heap.size 72 2 (.slice (some ⟨w5.heap.size, 0, none⟩) N.length N.length) N.length (cells2 N.length val) ∧ (∀ i, i < x → val (2 * i) = frm row i ∧ val (2 * i + 1) = (tto row i : Int)) ∧ ∀ i, x ≤ i → val (2 * i + 1) = 0,
    fun t _ => N.length - t.toNat, ⟨0, fun _ => 0, rfl, by omega, Fr.refl _ _, ho6, fun i h => by omega, fun i _ => rfl⟩, ?_⟩
  rintro - t w7 ⟨x, val, rfl, hx, hf7, ho7, hdone, hzero⟩
  have g57 : Grow w5 w7 := g6.fr hf7 fun i hi e => by omega
  have hadd : ∀ j, (⟨w5.heap.size, 0, none⟩ : Addr).add j = ⟨w5.heap.size, j, none⟩ := fun j => by unfold Addr.add; split <;> simp_all
  have hadd1 : ∀ j, (⟨w5.heap.size, j, none⟩ : Addr).add 1 = ⟨w5.heap.size, j + 1, none⟩ := fun j => by unfold Addr.add; simp
  have hadd0 : ∀ j, (⟨w5.heap.size, j, none⟩ : Addr).add 0 = ⟨w5.heap.size, j, none⟩ := fun j => by unfold Addr.add; simp
  refine condD (fun hlt => ?_) (fun hge => ?_)
  · have hxl : x < N.length := by omega
    intro w8 hw8
    have g8 := alloc_grow hw8
    have s8 := alloc_size hw8
    have hb8 := Box.new hw8
    refine ⟨⟨_, hb8.cell⟩, hb8.free, fun w9 hw9 => ?_⟩
    have hb9 := hb8.set hw9
    have f9 := set_fr hw9
    have g79 : Grow w7 w9 := g8.fr f9 fun i hi e => absurd (show i = w7.heap.size from e) (by omega)
    have hsz7 : w5.heap.size < w7.heap.size := by have := hf7.size; omega
    -- the state in which From is written
    refine ⟨fun w' => ∃ val', Fr (fun k => k = w5.heap.size) w9 w' ∧ Own w' w5.heap.size 72 2 (.slice (some ⟨w5.heap.size, 0, none⟩) N.length N.length) N.length (cells2 N.length val') ∧ (∀ i, i < x → val' (2 * i) = frm row i ∧ val' (2 * i + 1) = (tto row i : Int)) ∧ (∀ i, x ≤ i → val' (2 * i + 1) = 0) ∧ val' (2 * x) = frm row x, fun m => ?_, ?_⟩
    · have g10 := (Grow.refl w9).dr m
      have cx : (dr w9 m).cell? ⟨w7.heap.size, 0, none⟩ = some (.int .i64 (x : Int)) := g10.cell hb9.cell
      have hask : Asks (dr w9 m) (.func (.func 81) #[] #[.pointer (some ⟨w7.heap.size, 0, none⟩)]) (ofN row) (fun c => c.toNat.testBit x) := by
        refine ⟨_, _, _, rfl, rfl, fun c hc w' hw' => ?_⟩
        obtain ⟨i, hi, rfl⟩ := List.mem_map.1 hc
        simp only [Int.toNat_natCast]
        exact model_lit_c (hw'.cell cx) (by omega)
      have hrow10 : SlI (dr w9 m) rv (ofN row) := hrv.grow ((g57.trans g79).trans g10)
      have fin : ∀ w11, Grow (dr w9 m) w11 → ((∃ old, w11.cell? (Addr.add ((⟨w5.heap.size, 0, none⟩ : Addr).add (Int.toNat (x : Int) * 2)) 0) = some old) ∧ w11.frozen? (Addr.add ((⟨w5.heap.size, 0, none⟩ : Addr).add (Int.toNat (x : Int) * 2)) 0) = false ∧ ∀ w12, w12 = w11.setCell (Addr.add ((⟨w5.heap.size, 0, none⟩ : Addr).add (Int.toNat (x : Int) * 2)) 0) (.int .i64 (frm row x)) →
          ∃ val', Fr (fun k => k = w5.heap.size) w9 w12 ∧ Own w12 w5.heap.size 72 2 (.slice (some ⟨w5.heap.size, 0, none⟩) N.length N.length) N.length (cells2 N.length val') ∧ (∀ i, i < x → val' (2 * i) = frm row i ∧ val' (2 * i + 1) = (tto row i : Int)) ∧ (∀ i, x ≤ i → val' (2 * i + 1) = 0) ∧ val' (2 * x) = frm row x) := fun w11 g11 => by
        have ho11 := ho7.grow ((g79.trans g10).trans g11)
        have hj : x * 2 < N.length * 2 := by omega
        rw [Int.toNat_natCast, hadd, hadd0]
        refine ⟨(own_wrz ho11 hj).1, (own_wrz ho11 hj).2, fun w12 hw12 => ?_⟩
        have ho12 := own_setz ho11 hj hw12
        rw [cells2_set hj] at ho12
        refine ⟨_, (Fr.of_grow (g10.trans g11)).trans (set_fr hw12), ho12, fun i hi => ?_, fun i hi => ?_, ?_⟩
        · have h1 : ¬ 2 * i = x * 2 := by omega
          have h2 : ¬ 2 * i + 1 = x * 2 := by omega
          simp only [h1, h2, if_false]
          exact hdone i hi
        · have h2 : ¬ 2 * i + 1 = x * 2 := by omega
          simp only [h2, if_false]
          exact hzero i hi
        · rw [if_pos (by omega)]
      refine ⟨⟨_, cx, (indexFunc_c hrow10 hask).mono ?_⟩, (indexFunc_c hrow10 hask).mono ?_⟩
      · rintro e w11 ⟨rfl, g11⟩
        rw [frm_idx]
        exact ⟨_, rfl, _, _, _, rfl, ⟨by omega, by omega⟩, fin w11 g11⟩
      · rintro e w11 ⟨rfl, g11⟩
        rw [frm_idx]
        exact ⟨_, rfl, _, g11.cell cx, _, _, _, rfl, ⟨by omega, by omega⟩, fin w11 g11⟩
    · rintro - w10 ⟨val1, f10, ho10, hd1, hz1, hfx⟩
      have g510 : Grow w5 w10 := (g57.trans g79).fr f10 fun i hi e => by omega
      refine (hrv.grow g510).ln ?_
      rw [ofN_len]
      refine ⟨fun t w' => ∃ (k : Nat) (val' : Nat → Int), t = k ∧ k ≤ row.length ∧ Fr (fun k => k = w5.heap.size) w9 w' ∧ Own w' w5.heap.size 72 2 (.slice (some ⟨w5.heap.size, 0, none⟩) N.length N.length) N.length (cells2 N.length val') ∧ (∀ i, i < x → val' (2 * i) = frm row i ∧ val' (2 * i + 1) = (tto row i : Int)) ∧ (∀ i, x < i → val' (2 * i + 1) = 0) ∧ val' (2 * x) = frm row x ∧ val' (2 * x + 1) = (ttoT row x k : Int),
        fun t _ => row.length - t.toNat, ⟨0, val1, rfl, by omega, f10, ho10, hd1, fun i hi => hz1 i (by omega), hfx, hz1 x (Nat.le_refl _)⟩, ?_⟩
      rintro - t w11 ⟨k, val2, rfl, hk, f11, ho11, hd2, hz2, hfx2, htx2⟩
      have g511 : Grow w5 w11 := (g57.trans g79).fr f11 fun i hi e => by omega
      have cx : w11.cell? ⟨w7.heap.size, 0, none⟩ = some (.int .i64 (x : Int)) := f11.cell hb9.cell fun e => by
        have : w7.heap.size = w5.heap.size := e
        omega
      refine condD (fun hlt2 => ?_) (fun hge2 => ?_)
      · have hkl : k < row.length := by omega
        have hrl := (hrv.grow g511).len_le
        have hrl2 : row.length ≤ 9223372036854775807 := by rw [ofN_len] at hrl; exact hrl
        refine (hrv.grow g511).rd rfl (by simpa using hkl) ?_
        rw [ofN_get, gn_get (l := row) hkl]
        refine ⟨_, cx, by omega, condD (fun hb => ⟨_, cx, _, _, _, rfl, ⟨by omega, by omega⟩, ?_⟩) (fun hb => ?_)⟩
        · have hj : x * 2 + 1 < N.length * 2 := by omega
          rw [Int.toNat_natCast, hadd, hadd1]
          refine ⟨(own_wrz ho11 hj).1, (own_wrz ho11 hj).2, fun w12 hw12 => ?_⟩
          have ho12 := own_setz ho11 hj hw12
          rw [cells2_set hj] at ho12
          refine ⟨by unfold inR; omega, ⟨k + 1, _, by omega, by omega, f11.trans (set_fr hw12), ho12, fun i hi => ?_, fun i hi => ?_, ?_, ?_⟩, by dsimp only; omega⟩
          · have h1 : ¬ 2 * i = x * 2 + 1 := by omega
            have h2 : ¬ 2 * i + 1 = x * 2 + 1 := by omega
            simp only [h1, h2, if_false]
            exact hd2 i hi
          · have h2 : ¬ 2 * i + 1 = x * 2 + 1 := by omega
            simp only [h2, if_false]
            exact hz2 i hi
          · rw [if_neg (by omega)]; exact hfx2
          · rw [if_pos (by omega)]
            have hbit : (gn row k).testBit x = true := (bitN (by omega)).1 hb
            unfold ttoT
            rw [if_pos hbit]
        · refine ⟨by unfold inR; omega, ⟨k + 1, val2, by omega, by omega, f11, ho11, hd2, hz2, hfx2, ?_⟩, by dsimp only; omega⟩
          have hbit : (gn row k).testBit x = false := by
            cases h : (gn row k).testBit x with
            | false => rfl
            | true => exact absurd ((bitN (by omega)).2 h) hb
          rw [htx2]
          conv => rhs; unfold ttoT
          rw [if_neg (by rw [hbit]; simp)]
      · have hkl : k = row.length := by omega
        subst hkl
        refine ⟨by unfold inR; omega, ⟨x + 1, val2, by omega, by omega, (hf7.trans (Fr.of_grow g79)).trans f11, ho11, fun i hi => ?_, fun i hi => hz2 i (by omega)⟩, by dsimp only; omega⟩
        by_cases e : i = x
        · subst e; exact ⟨hfx2, htx2⟩
        · exact hd2 i (by omega)
  · have hxl : x = N.length := by omega
    subst hxl
    have hsp : cells2 N.length val = spC (spansOf N) := by
      rw [cells2_sp]
      congr 1
      unfold spansOf
      rw [← hrowdef]
      refine List.map_congr_left fun i hi => ?_
      have := hdone i (List.mem_range.1 hi)
      rw [this.1, this.2]
    refine ⟨_, rfl, ?_, g05.trans g57⟩
    have := Own.slC ho7
    rw [hsp] at this
    unfold SlP
    rw [show (spansOf N).length = N.length by simp [spansOf]]
    exact this
/-- What Model answers, as a number. -/
noncomputable def modE (N : List Nat) : Int := if (ordG N).isSome && (firstA N).isNone then 0 else 5
theorem Model_any {w : World} {v : Value} {N : List Nat} (hs : SlI w v (ofN N)) (hN : VN N) (hT : Tab w) : Calls Tryd.prog 31 #[v] w fun e w' => ∃ u, e = .returned (.tuple #[u, .int .i64 (modE N)]) ∧ (modE N = 0 → SlP w' u (spansOf N)) ∧ (modE N ≠ 0 → u = .slice none 0 0) ∧ Grow w w' := by
  by_cases h : (ordG N).isSome = true ∧ firstA N = none
  · have hE : modE N = 0 := by unfold modE; rw [h.1, h.2]; rfl
    refine (Model_c hs hN hT h.1 h.2).mono ?_
    rintro e w' ⟨u, rfl, hu, g⟩
    rw [hE]
    exact ⟨u, rfl, fun _ => hu, fun h => absurd rfl h, g⟩
  · have hbad : ordG N = none ∨ (firstA N).isSome = true := by
      cases ho : ordG N with
      | none => exact .inl rfl
      | some r =>
        cases ha : firstA N with
        | none => exact absurd ⟨by rw [ho]; rfl, ha⟩ h
        | some t => exact .inr rfl
    have hE : modE N = 5 := by
      unfold modE
      rcases hbad with hb | hb
      · rw [hb]; rfl
      · cases ha : firstA N with
        | none => rw [ha] at hb; cases hb
        | some t => simp
    refine (Model_none hs hN hT hbad).mono ?_
    rintro e w' ⟨rfl, g⟩
    rw [hE]
    exact ⟨_, rfl, fun h => by (simp at h), fun _ => rfl, g⟩
end Go.Proofs.YtmpjanpmkmlloaaDoor
