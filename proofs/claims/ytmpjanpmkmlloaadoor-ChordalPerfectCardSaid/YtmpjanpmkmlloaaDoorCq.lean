/- Contracts of package chordal: Apart. The table of bits is laid (Tab). -/
import Derived.Test.YtmpjanpmkmlloaaDoorCp
namespace Go.Proofs.YtmpjanpmkmlloaaDoor
open Go Go.RowKit VC
set_option linter.unusedSimpArgs false
set_option linter.unusedVariables false

def atA : Option (Nat × Nat × Nat) → Array Value
  | none => v3 0 0 0
  | some (a, b, c) => v3 a b c
theorem find3 {N : List Nat} {x y z : Nat} (hx : x < N.length) (hy : y < N.length) (hz : z < N.length) (h0 : ∀ a b c, a < x → ¬ (a < b ∧ b < c ∧ AT N a b c)) (h1 : ∀ b c, b < y → ¬ (x < b ∧ b < c ∧ AT N x b c)) (h2 : ∀ c, c < z → ¬ (x < y ∧ y < c ∧ AT N x y c)) (h : x < y ∧ y < z ∧ AT N x y z) : firstA N = some (x, y, z) := by
  unfold firstA
  refine findSome_idx (k := x) (by simpa using hx) (fun j hj hjx => ?_) ?_
  · rw [List.getElem_range, List.findSome?_eq_none_iff]
    intro b _
    rw [List.findSome?_eq_none_iff]
    intro c _
    rw [if_neg (h0 j b c hjx)]
  · rw [List.getElem_range]
    refine findSome_idx (k := y) (by simpa using hy) (fun j hj hjy => ?_) ?_
    · rw [List.getElem_range, List.findSome?_eq_none_iff]
      intro c _
      rw [if_neg (h1 j c hjy)]
    · rw [List.getElem_range]
      refine findSome_idx (k := z) (by simpa using hz) (fun j hj hjz => ?_) ?_
      · rw [List.getElem_range, if_neg (h2 j hjz)]
      · rw [List.getElem_range, if_pos h]
theorem Apart_no {w : World} {v : Value} {G : List Int} (hs : SlI w v G) (hv : ¬ VG G) : Calls Tryd.prog 32 #[v] w (Ret w (.tuple #[.agg (v3 0 0 0), .int .i64 2])) := by
  refine f32_calls _ ?_
  intro w1 hw1
  have g1 := alloc_grow hw1
  have hrow : w1.heap[w.heap.size]? = some (.cells (v3 0 0 0) 45 (0, 0)) := by subst hw1; exact heap_alloc_new w _
  refine (valid_c (hs.grow g1) (b := false) (by simp [hv])).mono ?_
  rintro e w2 ⟨rfl, g2⟩
  obtain ⟨w3, hr, hf, hrow3⟩ := store_row (P := Tryd.prog) (cs := v3 0 0 0) (grow_row g2 hrow) rfl (v3_one _ _ _)
  refine ⟨false, rfl, condP_i (fun _ => ?_) fun h => by simp at h⟩
  exact ⟨_, rfl, rfl, w3, hr, _, rfl, row_cells hrow3, rfl, (g1.trans g2).fr hf fun i hi e => by have := alloc_size hw1; omega⟩
theorem Apart_c {w : World} {v : Value} {N : List Nat} (hs : SlI w v (ofN N)) (hN : VN N) (hT : Tab w) : Calls Tryd.prog 32 #[v] w (Ret w (.tuple #[.agg (atA (firstA N)), .int .i64 (if (firstA N).isSome then 0 else 5)])) := by
  refine f32_calls _ ?_
  have h12 := hN.le
  intro w1 hw1
  have g1 := alloc_grow hw1
  have s1 := alloc_size hw1
  have hrow : w1.heap[w.heap.size]? = some (.cells (v3 0 0 0) 45 (0, 0)) := by subst hw1; exact heap_alloc_new w _
  refine (valid_c (hs.grow g1) (b := true) (by simp [VG_ofN.2 hN])).mono ?_
  rintro e w2 ⟨rfl, g2⟩
  have g02 := g1.trans g2
  refine ⟨true, rfl, condP_i (fun h => by simp at h) fun _ => hs.ln ?_⟩
  rw [ofN_len]
  have hrow2 := grow_row g2 hrow
  refine ⟨fun t w' => ∃ x : Nat, t = x ∧ x ≤ N.length ∧ Grow w2 w' ∧ ∀ a b c, a < x → ¬ (a < b ∧ b < c ∧ AT N a b c), fun t _ => N.length - t.toNat, ⟨0, rfl, by omega, Grow.refl w2, fun a b c h => by omega⟩, ?_⟩
  rintro - t w3 ⟨x, rfl, hx, g3, h0⟩
  refine condD (fun hlt => ⟨by unfold inR; omega, ?_⟩) (fun hge => ?_)
  · have hxl : x < N.length := by omega
    refine ⟨fun t w' => ∃ y : Nat, t = y ∧ y ≤ N.length ∧ x < y ∧ Grow w2 w' ∧ ∀ b c, b < y → ¬ (x < b ∧ b < c ∧ AT N x b c), fun t _ => N.length - t.toNat, ⟨x + 1, by omega, by omega, by omega, g3, fun b c h hh => by omega⟩, ?_⟩
    rintro - t w4 ⟨y, rfl, hy, hxy, g4, h1⟩
    refine (hs.grow (g02.trans g4)).ln ?_
    rw [ofN_len]
    refine condD (fun hlt2 => ⟨by unfold inR; omega, ?_⟩) (fun hge2 => ?_)
    · have hyl : y < N.length := by omega
      refine ⟨fun t w' => ∃ z : Nat, t = z ∧ z ≤ N.length ∧ y < z ∧ Grow w2 w' ∧ ∀ c, c < z → ¬ (x < y ∧ y < c ∧ AT N x y c), fun t _ => N.length - t.toNat, ⟨y + 1, by omega, by omega, by omega, g4, fun c h hh => by omega⟩, ?_⟩
      rintro - t w5 ⟨z, rfl, hz, hyz, g5, h2⟩
      refine (hs.grow (g02.trans g5)).ln ?_
      rw [ofN_len]
      refine condD (fun hlt3 => ?_) (fun hge3 => ?_)
      · have hzl : z < N.length := by omega
        intro w6 hw6
        have g6 := alloc_grow hw6
        have hrow6 : w6.heap[w5.heap.size]? = some (.cells (v3 0 0 0) 45 (0, 0)) := by subst hw6; exact heap_alloc_new w5 _
        obtain ⟨w7, hr7, hf7, hrow7⟩ := store_row (P := Tryd.prog) (cs := v3 x y z) hrow6 rfl (v3_one _ _ _)
        have g57 : Grow w5 w7 := g6.fr hf7 fun i hi e => by omega
        have g07 := (g02.trans g5).trans g57
        refine ⟨v3 x y z, rfl, rfl, w7, hr7, (v3 x y z).toList, rfl, row_cells hrow7, ?_⟩
        open Classical in
        refine (apart_c (r := decide (AT N x y z)) (hs.grow g07) hN hxl hyl hzl (hT.grow g07) (by simp)).mono ?_
        rintro e w8 ⟨rfl, g8⟩
        have g28 := (g5.trans g57).trans g8
        refine ⟨_, rfl, condP_i (fun hb => ?_) (fun hb => ?_)⟩
        · have hat : AT N x y z := by simpa using hb
          have hfirst := find3 hxl hyl hzl h0 h1 h2 ⟨hxy, hyz, hat⟩
          obtain ⟨w9, hr9, hf9, hrow9⟩ := store_row (P := Tryd.prog) (cs := v3 x y z) (grow_row g28 hrow2) rfl (v3_one _ _ _)
          refine ⟨(v3 x y z).toList, rfl, row_cells (grow_row g8 hrow7), v3 x y z, rfl, rfl, w9, hr9, (v3 x y z).toList, rfl, row_cells hrow9, ?_⟩
          rw [hfirst]
          exact ⟨rfl, (g02.trans g28).fr hf9 fun i hi e => by omega⟩
        · refine ⟨by unfold inR; omega, ⟨z + 1, by omega, by omega, by omega, g28, fun c hc hh => ?_⟩, by dsimp only; omega⟩
          by_cases e : c = z
          · subst e; simp [hh.2.2] at hb
          · exact h2 c (by omega) hh
      · refine ⟨by unfold inR; omega, ⟨y + 1, by omega, by omega, by omega, g5, fun b c hb hh => ?_⟩, by dsimp only; omega⟩
        by_cases e : b = y
        · subst e
          exact h2 c (by have := hh.2.2.lt; omega) hh
        · exact h1 b c (by omega) hh
    · refine ⟨by unfold inR; omega, ⟨x + 1, by omega, by omega, g4, fun a b c ha hh => ?_⟩, by dsimp only; omega⟩
      by_cases e : a = x
      · subst e
        exact h1 b c (by have := hh.2.2.lt; omega) hh
      · exact h0 a b c (by omega) hh
  · have hfirst : firstA N = none := by
      unfold firstA
      rw [List.findSome?_eq_none_iff]
      intro a ha
      rw [List.findSome?_eq_none_iff]
      intro b _
      rw [List.findSome?_eq_none_iff]
      intro c _
      rw [if_neg (h0 a b c (by have := List.mem_range.1 ha; omega))]
    obtain ⟨w9, hr9, hf9, hrow9⟩ := store_row (P := Tryd.prog) (cs := v3 0 0 0) (grow_row g3 hrow2) rfl (v3_one _ _ _)
    rw [hfirst]
    exact ⟨v3 0 0 0, rfl, rfl, w9, hr9, _, rfl, row_cells hrow9, rfl, (g02.trans g3).fr hf9 fun i hi e => by omega⟩
end Go.Proofs.YtmpjanpmkmlloaaDoor
