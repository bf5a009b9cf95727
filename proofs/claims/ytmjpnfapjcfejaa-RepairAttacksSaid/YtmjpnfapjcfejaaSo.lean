/- Attacks and closures as the reference finds them, step by step. Of no program. No condition. -/
import Derived.Test.YtmjpnfapjcfejaaSg
namespace Go.Proofs.Ytmjpnfapjcfejaa
open Go VC
set_option linter.unusedSimpArgs false
set_option linter.unusedVariables false

/-! ## Closures -/
def ClS (l : List (Nat × Nat)) (a r k : Nat) : Nat := roundF stepC (l.take k) (iterF (roundF stepC l) r a)
theorem ClS_succ {l : List (Nat × Nat)} {a r k : Nat} (hk : k < l.length) : ClS l a r (k + 1) = stepC l[k] (ClS l a r k) := by
  unfold ClS
  rw [List.take_succ_eq_append_getElem hk, roundF_app]
theorem ClS_row (l : List (Nat × Nat)) (a r : Nat) : ClS l a r l.length = ClS l a (r + 1) 0 := by
  unfold ClS
  rw [List.take_length]
  rfl
theorem ClS_end (l : List (Nat × Nat)) (a : Nat) : ClS l a l.length 0 = clF l a := rfl
theorem stepC_lt {d : Nat × Nat} {s : Nat} (hd : d.2 < 256) (h : s < 256) : stepC d s < 256 := by
  unfold stepC
  split
  · exact Nat.or_lt_two_pow (n := 8) h hd
  · exact h
theorem ClS_lt {l : List (Nat × Nat)} {a r k : Nat} (hl : smallD l) (ha : a < 256) : ClS l a r k < 256 := by
  unfold ClS
  refine roundF_P (P := fun s => s < 256) (fun d hd s hs => stepC_lt (hl d (List.mem_of_mem_take hd)).2 hs) ?_
  exact iterF_P (P := fun s => s < 256) (fun d hd s hs => stepC_lt (hl d hd).2 hs) ha r
theorem clF_lt {l : List (Nat × Nat)} {a : Nat} (hl : smallD l) (ha : a < 256) : clF l a < 256 := by
  rw [← ClS_end]
  exact ClS_lt hl ha
/-! ## The atoms that are met -/
def MetS (U : Nat → Nat) (n f r i j : Nat) : Nat := roundF (stepM2 U) ((List.range j).map fun j => (i, j)) (roundF (stepM2 U) ((List.range i).flatMap fun i => (List.range n).map fun j => (i, j)) (iterF (roundF (stepM2 U) (pairsN n)) r (2 ^ f)))
theorem MetS_succ (U : Nat → Nat) (n f r i j : Nat) : MetS U n f r i (j + 1) = stepM2 U (i, j) (MetS U n f r i j) := by
  unfold MetS
  rw [List.range_succ, List.map_append]
  exact roundF_app _ _ _
theorem roundF_append {σ ι : Type} (step : ι → σ → σ) (l l' : List ι) (s : σ) : roundF step (l ++ l') s = roundF step l' (roundF step l s) := by simp [roundF]
theorem MetS_row (U : Nat → Nat) (n f r i : Nat) : MetS U n f r i n = MetS U n f r (i + 1) 0 := by
  unfold MetS
  rw [List.range_succ, List.flatMap_append, roundF_append]
  simp [roundF]
theorem MetS_round (U : Nat → Nat) (n f r : Nat) : MetS U n f r n 0 = MetS U n f (r + 1) 0 0 := rfl
theorem MetS_end (U : Nat → Nat) (n f : Nat) : MetS U n f n 0 0 = metN U n f := rfl
theorem stepM2_lt {U : Nat → Nat} {n : Nat} {ij : Nat × Nat} {m : Nat} (hj : ij.2 < n) (h : m < 2 ^ n) : stepM2 U ij m < 2 ^ n := by
  unfold stepM2
  split
  · exact Nat.or_lt_two_pow h (Nat.pow_lt_pow_right (by omega) hj)
  · exact h
theorem MetS_lt {U : Nat → Nat} {n f r i j : Nat} (hf : f < n) (hi : i ≤ n) (hj : j ≤ n) : MetS U n f r i j < 2 ^ n := by
  unfold MetS
  refine roundF_P (P := fun m => m < 2 ^ n) (fun x hx m hm => ?_) (roundF_P (P := fun m => m < 2 ^ n) (fun x hx m hm => ?_) (iterF_P (P := fun m => m < 2 ^ n) (fun x hx m hm => stepM2_lt (mem_pairs.1 hx).2 hm) (Nat.pow_lt_pow_right (by omega) hf) r))
  · obtain ⟨y, hy, rfl⟩ := List.mem_map.1 hx
    exact stepM2_lt (by have := List.mem_range.1 hy; show y < n; omega) hm
  · obtain ⟨y, hy, hx⟩ := List.mem_flatMap.1 hx
    obtain ⟨z, hz, rfl⟩ := List.mem_map.1 hx
    exact stepM2_lt (List.mem_range.1 hz) hm
/-- The atoms that an atom attacks, as a mask. -/
def atkN (V K : List Nat) (f : Nat) : Nat := nSub (metN (UN V K f) V.length f) (2 ^ f)
theorem atkN_bit {V K : List Nat} {f g : Nat} (hf : f < V.length) : (atkN V K f).testBit g = attN V K f g := by
  unfold atkN attN
  rw [nSub_bit, Nat.testBit_two_pow, Bool.eq_iff_iff, Bool.and_eq_true, Bool.and_eq_true, metN_bit hf, reachN_bit hf, decide_eq_true_eq, Bool.not_eq_true', decide_eq_false_iff_not]
  exact ⟨fun h => ⟨fun e => h.2 e.symm, h.1⟩, fun h => ⟨h.2, fun e => h.1 e.symm⟩⟩
/-! ## Dependencies, but one -/
/-- Those of the first k atoms, but the atom `but` (-1: none). -/
def depX (V K : List Nat) (but : Int) (k : Nat) : List (Nat × Nat) := ((List.range k).filter fun i : Nat => decide ((i : Int) ≠ but)).map fun i => (K.getD i 0, V.getD i 0)
theorem depX_succ (V K : List Nat) (but : Int) (k : Nat) : depX V K but (k + 1) = if (k : Int) ≠ but then depX V K but k ++ [(K.getD k 0, V.getD k 0)] else depX V K but k := by
  unfold depX
  rw [List.range_succ, List.filter_append, List.map_append]
  by_cases h : (k : Int) ≠ but
  · rw [if_pos h]
    simp [h]
  · rw [if_neg h]
    simp [h]
theorem depX_le (V K : List Nat) (but : Int) (k : Nat) : (depX V K but k).length ≤ k := by
  unfold depX
  rw [List.length_map]
  have := List.length_filter_le (fun i : Nat => decide ((i : Int) ≠ but)) (List.range k)
  rwa [List.length_range] at this
theorem depX_B (V K : List Nat) (f : Nat) : depX V K (f : Int) V.length = depsB V K f := by
  unfold depX depsB
  congr 1
  refine List.filter_congr fun i _ => ?_
  rw [decide_eq_decide]
  omega
theorem depX_A (V K : List Nat) : depX V K (-1) V.length = depsA V K := by
  unfold depX depsA
  congr 1
  rw [List.filter_eq_self]
  intro i _
  rw [decide_eq_true_eq]
  omega
/-- The sets of variables of atoms, and of their keys, but those that were replaced. -/
def VG (gone : Nat) (b : List Atm) : List Nat := b.map fun a => nSub (varsL a.2) gone
def KG (s : List Int) (gone : Nat) (b : List Atm) : List Nat := b.map fun a => nSub (varsL (a.2.take (klS s a.1))) gone
theorem nSub_0 (a : Nat) : nSub a 0 = a := Nat.eq_of_testBit_eq fun i => by rw [nSub_bit, Nat.zero_testBit]; simp
theorem VG_0 (b : List Atm) : VG 0 b = varsOf b := by
  unfold VG varsOf
  exact List.map_congr_left fun a _ => nSub_0 _
theorem KG_0 (s : List Int) (b : List Atm) : KG s 0 b = keysOf s b := by
  unfold KG keysOf
  exact List.map_congr_left fun a _ => nSub_0 _
theorem VG_get {gone : Nat} {b : List Atm} {i : Nat} (hi : i < b.length) : (VG gone b).getD i 0 = nSub (varsL b[i].2) gone := by simp [VG, List.getD, hi]
theorem KG_get {s : List Int} {gone : Nat} {b : List Atm} {i : Nat} (hi : i < b.length) : (KG s gone b).getD i 0 = nSub (varsL (b[i].2.take (klS s b[i].1))) gone := by simp [KG, List.getD, hi]
theorem VG_len (gone : Nat) (b : List Atm) : (VG gone b).length = b.length := by simp [VG]
theorem KG_len (s : List Int) (gone : Nat) (b : List Atm) : (KG s gone b).length = b.length := by simp [KG]
theorem VG_lt {gone : Nat} {b : List Atm} (h : ∀ a ∈ b, okA a = true) (i : Nat) : (VG gone b).getD i 0 < 256 := by
  rcases Nat.lt_or_ge i b.length with hi | hi
  · rw [VG_get hi]
    exact VC.nSub_lt (n := 8) (varsL_lt (okA_iff.1 (h _ (List.getElem_mem hi))).2.2.2.2)
  · have : (VG gone b).getD i 0 = 0 := by simp [List.getD, List.getElem?_eq_none (by rw [VG_len]; omega : (VG gone b).length ≤ i)]
    omega
theorem KG_lt {s : List Int} {gone : Nat} {b : List Atm} (h : ∀ a ∈ b, okA a = true) (i : Nat) : (KG s gone b).getD i 0 < 256 := by
  rcases Nat.lt_or_ge i b.length with hi | hi
  · rw [KG_get hi]
    exact VC.nSub_lt (n := 8) (varsL_take (okA_iff.1 (h _ (List.getElem_mem hi))).2.2.2.2 _)
  · have : (KG s gone b).getD i 0 = 0 := by simp [List.getD, List.getElem?_eq_none (by rw [KG_len]; omega : (KG s gone b).length ≤ i)]
    omega
theorem depX_small {V K : List Nat} (hV : ∀ i, V.getD i 0 < 256) (hK : ∀ i, K.getD i 0 < 256) (but : Int) (k : Nat) : smallD (depX V K but k) := fun d hd => by
  obtain ⟨i, _, rfl⟩ := List.mem_map.1 hd
  exact ⟨hK i, hV i⟩
end Go.Proofs.Ytmjpnfapjcfejaa
