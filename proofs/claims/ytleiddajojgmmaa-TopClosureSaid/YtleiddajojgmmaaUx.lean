/- Contracts: depend.Closure, of any number of attributes. No condition. -/
import Derived.Test.YtleiddajojgmmaaSe
import Derived.Test.YtleiddajojgmmaaUr
namespace Go.Proofs.Ytleiddajojgmmaa
open Go Go.RowKit VC
set_option linter.unusedSimpArgs false
set_option linter.unusedVariables false

theorem setsN1_c {w : World} {s n : Nat} {p : Addr} (hn : n < 62) (hc : w.cell? p = some (.int .i64 (n : Int))) : Calls Try.prog 58 #[.int .i64 (s : Int), .pointer (some p)] w (Ret w (.bool (decide (2 ^ n ≤ s)))) := by
  refine f58_calls _ _ (cF (decide_eq_false (by omega)) ⟨_, hc, by omega, ?_, Grow.refl w⟩)
  rw [iShl_one (by omega)]
  have : decide (((2 ^ n : Nat) : Int) ≤ (s : Int)) = decide (2 ^ n ≤ s) := decide_eq_decide.2 (by omega)
  rw [this]
theorem setsN_c {w : World} {lv : Value} {n : Nat} {xs : List Int} (hl : SlI w lv xs) (hn : n < 62) (hx : ∀ x ∈ xs, ∃ s : Nat, x = s ∧ s < 2 ^ n) : Calls Try.prog 30 #[.int .i64 (n : Int), lv] w (Ret w (.bool true)) := by
  refine f30_calls _ _ fun w1 hw1 => ?_
  have g1 := alloc_grow hw1
  have bx := Box.new hw1
  refine (containsFunc_c (p := fun x => decide ((2 ^ n : Nat) ≤ x.toNat)) (hl.grow g1) ⟨58, #[], _, rfl, rfl, fun x hx' w' gg => ?_⟩).mono ?_
  · obtain ⟨s, rfl, hs⟩ := hx x hx'
    rw [app1]
    exact setsN1_c hn (gg.cell bx.cell)
  · rintro e w2 ⟨rfl, g2⟩
    have : (xs.any fun x => decide ((2 ^ n : Nat) ≤ x.toNat)) = false := by
      rw [List.any_eq_false]
      intro x h
      obtain ⟨s, rfl, hs⟩ := hx x h
      rw [decide_eq_true_eq, Int.toNat_natCast]
      omega
    rw [this]
    exact ⟨_, rfl, rfl, g1.trans g2⟩
theorem validN1_c {w : World} {d : Nat × Nat} {p : Addr} {n : Nat} (hn : n < 62) (hc : w.cell? p = some (.int .i64 (n : Int))) (h1 : d.1 < 2 ^ n) (h2 : d.2 < 2 ^ n) : Calls Try.prog 62 #[.agg (spF ((d.1 : Int), (d.2 : Int))).toArray, .pointer (some p)] w (Ret w (.bool false)) := by
  refine f62_calls _ _ ⟨_, rfl, fun w1 hw1 => ?_⟩
  have g1 := alloc_grow hw1
  refine ⟨_, g1.cell hc, _, boxc hw1 0 _ rfl, _, boxc hw1 1 _ rfl, fun w6 hw6 => ?_⟩
  have g6 := alloc_grow hw6
  have hs := slI_lit (xs := [(d.1 : Int), (d.2 : Int)]) hw6 rfl (by simp)
  refine (setsN_c hs hn (by
    intro x hx
    simp at hx
    rcases hx with rfl | rfl
    · exact ⟨_, rfl, h1⟩
    · exact ⟨_, rfl, h2⟩)).mono ?_
  rintro e w7 ⟨rfl, g7⟩
  exact ⟨_, rfl, rfl, (g1.trans g6).trans g7⟩
theorem validN_c {w : World} {v : Value} {l : List (Nat × Nat)} {n : Nat} (hs : SlD w v l) (h12 : l.length ≤ 12) (h1 : 1 ≤ n) (h8 : n ≤ 8) (hsm : ∀ d ∈ l, d.1 < 2 ^ n ∧ d.2 < 2 ^ n) : Calls Try.prog 34 #[.int .i64 (n : Int), v] w (Ret w (.bool true)) := by
  refine f34_calls _ _ fun w1 hw1 => ?_
  have g1 := alloc_grow hw1
  have c0 : w1.cell? ⟨w.heap.size, 0, none⟩ = some (.int .i64 (n : Int)) := alloc_cell0 hw1
  have hs1 := SlR.grow hs g1
  refine ⟨_, c0, cF (decide_eq_false (by omega)) ⟨_, c0, cF (decide_eq_false (by omega)) (SlR.ln hs1 (cF (decide_eq_false (by rw [encD_len]; omega)) ?_))⟩⟩
  refine f61_calls _ _ ((indexD_no hs1 rfl fun d hd w' g => ?_).mono ?_)
  · rw [app1]
    exact validN1_c (by omega) (g.cell c0) (hsm d hd).1 (hsm d hd).2
  · rintro e w3 ⟨rfl, g3⟩
    exact ⟨_, rfl, _, rfl, rfl, g1.trans g3⟩
theorem closureN_c {w : World} {v : Value} {l : List (Nat × Nat)} {n a : Nat} (hs : SlD w v l) (h12 : l.length ≤ 12) (h1 : 1 ≤ n) (h8 : n ≤ 8) (hsm : ∀ d ∈ l, d.1 < 2 ^ n ∧ d.2 < 2 ^ n) (ha : a < 2 ^ n) : Calls Try.prog 16 #[.int .i64 (n : Int), v, .int .i64 (a : Int)] w (Ret w (.tuple #[.int .i64 (clF l a : Nat), .int .i64 0])) := by
  have hp : (2 : Nat) ^ n ≤ 2 ^ 8 := Nat.pow_le_pow_right (by omega) h8
  refine f16_calls _ _ _ ((validN_c hs h12 h1 h8 hsm).mono ?_)
  rintro e w1 ⟨rfl, g1⟩
  refine ⟨_, rfl, cF rfl fun w4 hw4 => ?_⟩
  have g4 := alloc_grow hw4
  have hl := slI_lit (xs := [(a : Int)]) hw4 rfl (by simp)
  refine (setsN_c hl (by omega) (by
    intro x hx
    simp at hx
    exact ⟨_, hx, ha⟩)).mono ?_
  rintro e w5 ⟨rfl, g5⟩
  have g05 := (g1.trans g4).trans g5
  refine ⟨_, rfl, cF rfl ((closureV_c (SlR.one hs)).mono ?_)⟩
  rintro e w8 ⟨rfl, hb, g8⟩
  have g08 := g05.trans g8
  refine ⟨_, rfl, 63, #[], #[.pointer (some ⟨w5.heap.size, 0, none⟩)], rfl, by kernel_rfl, ?_⟩
  rw [app1]
  refine (closure1_c hb.cell (SlR.grow hs g08) (fun d hd => ?_) (by omega)).mono ?_
  · have := hsm d hd
    omega
  · rintro e w11 ⟨rfl, g11⟩
    exact ⟨_, rfl, rfl, g08.trans g11⟩
end Go.Proofs.Ytleiddajojgmmaa
