/- Contracts of package chordal and of its reference, fourth part: how many elements, independent sets, the greatest set of a kind. The table of bits is laid (Tab). -/
import Derived.Test.YtmpjanpmkmlloaaDoorCd
import Derived.Test.YtmpjanpmkmlloaaDoorGi
import Derived.Test.YtmpjanpmkmlloaaDoorCo
namespace Go.Proofs.YtmpjanpmkmlloaaDoor
open Go Go.RowKit VC
set_option linter.unusedSimpArgs false
set_option linter.unusedVariables false

/-- append of one int, at whatever type of slice. -/
theorem pappT {t ty : TypeId} (hT : ElT Tryd.prog t 3 1 8 (.int .i64 0)) {w w1 : World} {B : Nat} {v : Value} {x : Int} {xs : List Int} (hw : w1 = w.alloc (.cells #[.int .i64 x] 3)) (hown : OwnI w B v xs) (hB : B ≤ w.heap.size) (hlen : xs.length ≤ 1000000) {K : Value → World → Prop}
    (hk : ∀ v' w', OwnI w' B v' (xs ++ [x]) → Fr (fun k => some k = v.ownBlock) w1 w' → K v' w') : PApp Tryd.prog t ty v (.slice (some ⟨w.heap.size, 0, none⟩) 1 1) w1 K := by
  refine papp1 hT hw hown rfl hB (by omega) (by omega) ?_
  intro v' w' ho hf _
  refine hk v' w' ?_ hf
  have e : (xs ++ [x]).length = xs.length + 1 := by simp
  have e2 : (xs ++ [x]).map encI = xs.map encI ++ [.int .i64 x] := by simp [encI]
  unfold OwnI
  rw [e, e2]
  exact ho
theorem el_cgraph : ElT Tryd.prog 27 3 1 8 (.int .i64 0) := ⟨by kernel_rfl, ⟨Tryd.t3, by kernel_rfl, by kernel_rfl, by kernel_rfl, by kernel_rfl⟩, rfl⟩
/-! ## Independent sets -/
theorem independent_lit_c {w : World} {b1 b2 : Nat} {g : Value} {N : List Nat} {s : Nat} (h1 : w.cell? ⟨b1, 0, none⟩ = some (.int .i64 (s : Int))) (h2 : w.cell? ⟨b2, 0, none⟩ = some g) (hg : SlI w g (ofN N)) (hN : VN N) (hs : s < 4096) {i : Nat} (hi : i < N.length) :
    Calls Tryd.prog 103 #[.int .i64 (i : Int), .pointer (some ⟨b1, 0, none⟩), .pointer (some ⟨b2, 0, none⟩)] w (Ret w (.bool (!decide (s &&& nb N i = 0)))) := by
  refine f103_calls _ _ _ ?_
  refine ⟨_, h1, _, h2, hg.rd rfl (by simpa using hi) fun m => ⟨?_, (Grow.refl w).dr m⟩⟩
  rw [ofN_get, nb_get, and_expr hs (hN.nb_lt' i)]
  have : decide (((s &&& nb N i : Nat) : Int) = 0) = decide (s &&& nb N i = 0) := by rw [Bool.eq_iff_iff]; simp
  rw [this]
theorem free_any {N : List Nat} {s : Nat} (hs : s < 4096) : ((ofN (els s)).any fun x => !decide (s &&& nb N x.toNat = 0)) = !free N s := by
  rw [Bool.eq_iff_iff]
  simp only [List.any_eq_true, Bool.not_eq_true', free, List.all_eq_false, List.mem_range, decide_eq_false_iff_not, ofN, List.mem_map, mem_els]
  constructor
  · rintro ⟨x, ⟨i, ⟨hi, hb⟩, rfl⟩, h⟩
    exact ⟨i, hi, by simpa [hb] using h⟩
  · rintro ⟨i, hi, h⟩
    simp at h
    exact ⟨_, ⟨i, ⟨hi, h.1⟩, rfl⟩, by simpa using h.2⟩
theorem independent_c {w : World} {v : Value} {N : List Nat} (hs : SlI w v (ofN N)) (hN : VN N) {s : Nat} (hl : s < 2 ^ N.length) (hT : Tab w) : Calls Tryd.prog 71 #[v, .int .i64 (s : Int)] w (Ret w (.bool (free N s))) := by
  refine f71_calls _ _ ?_
  have hs4 : s < 4096 := Nat.lt_of_lt_of_le hl hN.pow
  refine ⟨hs.one, fun w1 hw1 w2 hw2 => ?_⟩
  have g1 := alloc_grow hw1
  have g2 := alloc_grow hw2
  refine ⟨_, alloc_cell0 hw2, ?_⟩
  refine (nodes_c hs4 (hT.grow (g1.trans g2))).mono ?_
  rintro e w3 ⟨u, rfl, ho, g3⟩
  refine ⟨u, rfl, ?_⟩
  have hask : Asks w3 (.func (.func 103) #[] #[.pointer (some ⟨w1.heap.size, 0, none⟩), .pointer (some ⟨w.heap.size, 0, none⟩)]) (ofN (els s)) (fun x => !decide (s &&& nb N x.toNat = 0)) := by
    refine ⟨_, _, _, rfl, rfl, fun x hx w' hw' => ?_⟩
    simp only [ofN, List.mem_map, mem_els] at hx
    obtain ⟨i, ⟨hi, hb⟩, rfl⟩ := hx
    simp only [Int.toNat_natCast]
    exact independent_lit_c (hw'.cell (g3.cell (alloc_cell0 hw2))) (hw'.cell (g3.cell (g2.cell (alloc_cell0 hw1)))) (hs.grow (((g1.trans g2).trans g3).trans hw')) hN hs4 (bit_lt hl hb)
  refine (containsFunc_c ho.slI hask).mono ?_
  rintro e w4 ⟨rfl, g4⟩
  refine ⟨_, rfl, ?_, ((g1.trans g2).trans g3).trans g4⟩
  rw [free_any hs4]; simp

/-! ## The greatest set of a kind -/
theorem best_c {w : World} {v f : Value} {N : List Nat} {q : Nat → Bool} (hs : SlI w v (ofN N)) (hN : VN N) (hf : Asks w f (ofN (List.range (2 ^ N.length))) (fun x => q x.toNat)) : Calls Tryd.prog 70 #[v, f] w (Ret w (.int .i64 (bestN q (2 ^ N.length) : Nat))) := by
  refine f70_calls _ _ ?_
  have hp := hN.pow
  have h0 : 0 < 2 ^ N.length := Nat.pow_pos (by omega)
  refine (all_c hs (by simpa using hN.le)).mono ?_
  rintro e w1 ⟨rfl, g1⟩
  rw [ofN_len]
  have hall : ((2 ^ N.length - 1 : Nat) : Int) + 1 = ((2 ^ N.length : Nat) : Int) := by omega
  obtain ⟨g, fst, cap, rfl, hg, hcall⟩ := hf
  refine ⟨_, rfl, by unfold inR; omega, ?_⟩
  rw [hall]
  refine ⟨fun b t w' => ∃ k : Nat, t = k ∧ k ≤ 2 ^ N.length ∧ b = ((bestN q k : Nat) : Int) ∧ Grow w w', fun _ t _ => 2 ^ N.length - t.toNat, ⟨0, rfl, by omega, rfl, g1⟩, ?_⟩
  rintro - b t w2 ⟨k, rfl, hk, rfl, g2⟩
  have hb := bestN_le (q := q) k
  refine condD (fun hlt => ?_) (fun hge => ?_)
  · have hkl : k < 2 ^ N.length := by omega
    rw [wrapU (by omega), wrapU (by omega)]
    refine (ones_c (by omega)).mono ?_
    rintro e w3 ⟨rfl, g3⟩
    refine ⟨_, rfl, (ones_c (by omega)).mono ?_⟩
    rintro e w4 ⟨rfl, g4⟩
    have g24 := (g2.trans g3).trans g4
    refine ⟨_, rfl, condD (fun hc => ?_) (fun hc => ?_)⟩
    · have hc : pc (bestN q k) < pc k := by omega
      refine ⟨g, fst, cap, rfl, hg, (hcall (k : Int) (List.mem_map.2 ⟨k, List.mem_range.2 hkl, rfl⟩) w4 g24).mono ?_⟩
      rintro e w5 ⟨rfl, g5⟩
      simp only [Int.toNat_natCast]
      refine ⟨_, rfl, condP_i (fun hq => ?_) (fun hq => ?_)⟩
      · exact ⟨by unfold inR; omega, ⟨k + 1, by omega, by omega, by simp [bestN, hc, hq], g24.trans g5⟩, by omega⟩
      · exact ⟨by unfold inR; omega, ⟨k + 1, by omega, by omega, by simp [bestN, hq], g24.trans g5⟩, by omega⟩
    · have hc : ¬ pc (bestN q k) < pc k := by omega
      exact ⟨by unfold inR; omega, ⟨k + 1, by omega, by omega, by simp [bestN, hc], g24⟩, by dsimp only; omega⟩
  · have hkl : k = 2 ^ N.length := by omega
    subst hkl
    exact ⟨rfl, g2⟩
theorem asks_clique {w : World} {v : Value} {N : List Nat} (hs : SlI w v (ofN N)) (hN : VN N) (hT : Tab w) : Asks w (.func (.func 67) #[v] #[]) (ofN (List.range (2 ^ N.length))) (fun x => cliq N x.toNat) := by
  refine ⟨_, _, _, rfl, rfl, fun x hx w' hw' => ?_⟩
  simp only [ofN, List.mem_map, List.mem_range] at hx
  obtain ⟨i, hi, rfl⟩ := hx
  simp only [Int.toNat_natCast]
  exact clique_c (hs.grow hw') hN hi (hT.grow hw')
theorem asks_free {w : World} {v : Value} {N : List Nat} (hs : SlI w v (ofN N)) (hN : VN N) (hT : Tab w) : Asks w (.func (.func 71) #[v] #[]) (ofN (List.range (2 ^ N.length))) (fun x => free N x.toNat) := by
  refine ⟨_, _, _, rfl, rfl, fun x hx w' hw' => ?_⟩
  simp only [ofN, List.mem_map, List.mem_range] at hx
  obtain ⟨i, hi, rfl⟩ := hx
  simp only [Int.toNat_natCast]
  exact independent_c (hs.grow hw') hN hi (hT.grow hw')
def omega_ (N : List Nat) : Nat := bestN (cliq N) (2 ^ N.length)
def alpha_ (N : List Nat) : Nat := bestN (free N) (2 ^ N.length)
theorem Clique_no {w : World} {v : Value} {G : List Int} (hs : SlI w v G) (hv : ¬ VG G) : Calls Tryd.prog 25 #[v] w (Ret w (.tuple #[.int .i64 0, .int .i64 2])) := by
  refine f25_calls _ ?_
  refine (valid_c hs (b := false) (by simp [hv])).mono ?_
  rintro e w1 ⟨rfl, g1⟩
  exact ⟨false, rfl, rfl, g1⟩
theorem Clique_c {w : World} {v : Value} {N : List Nat} (hs : SlI w v (ofN N)) (hN : VN N) (hT : Tab w) : Calls Tryd.prog 25 #[v] w (Ret w (.tuple #[.int .i64 (omega_ N : Nat), .int .i64 0])) := by
  refine f25_calls _ ?_
  refine (valid_c hs (b := true) (by simp [VG_ofN.2 hN])).mono ?_
  rintro e w1 ⟨rfl, g1⟩
  refine ⟨true, rfl, (best_c (hs.grow g1) hN (asks_clique (hs.grow g1) hN (hT.grow g1))).mono ?_⟩
  rintro e w2 ⟨rfl, g2⟩
  exact ⟨_, rfl, rfl, g1.trans g2⟩
theorem Independent_no {w : World} {v : Value} {G : List Int} (hs : SlI w v G) (hv : ¬ VG G) : Calls Tryd.prog 26 #[v] w (Ret w (.tuple #[.int .i64 0, .int .i64 2])) := by
  refine f26_calls _ ?_
  refine (valid_c hs (b := false) (by simp [hv])).mono ?_
  rintro e w1 ⟨rfl, g1⟩
  exact ⟨false, rfl, rfl, g1⟩
theorem Independent_c {w : World} {v : Value} {N : List Nat} (hs : SlI w v (ofN N)) (hN : VN N) (hT : Tab w) : Calls Tryd.prog 26 #[v] w (Ret w (.tuple #[.int .i64 (alpha_ N : Nat), .int .i64 0])) := by
  refine f26_calls _ ?_
  refine (valid_c hs (b := true) (by simp [VG_ofN.2 hN])).mono ?_
  rintro e w1 ⟨rfl, g1⟩
  refine ⟨true, rfl, (best_c (hs.grow g1) hN (asks_free (hs.grow g1) hN (hT.grow g1))).mono ?_⟩
  rintro e w2 ⟨rfl, g2⟩
  exact ⟨_, rfl, rfl, g1.trans g2⟩
end Go.Proofs.YtmpjanpmkmlloaaDoor
