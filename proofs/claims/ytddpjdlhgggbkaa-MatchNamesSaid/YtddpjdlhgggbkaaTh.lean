/- Contracts: Rest and JoinTree. No condition. -/
import Derived.Test.YtddpjdlhgggbkaaTg
namespace Go.Proofs.Ytddpjdlhgggbkaa
open Go Go.RowKit VC
set_option linter.unusedSimpArgs false
set_option linter.unusedVariables false

/-- Atom i has variable x. -/
def hasV (b : List Atm) (i x : Nat) : Bool := ((varsOf b).getD i 0).testBit x
theorem earI_init (b : List Atm) : EarI (fun i x => hasV b i x = true) b.length (2 ^ b.length - 1) (varsOf b) := ⟨by simp [varsOf], fun i _ _ x h => h, fun i k _ _ _ _ _ x hx _ => hx⟩
def restV (l : Nat) : Nat := if pc l = 1 then 0 else l
theorem pc_one : ∀ l, l < 32 → pc l = 1 → ∃ i, i < 5 ∧ l = 2 ^ i := by decide +kernel
theorem pc_pow : ∀ i, i < 5 → pc (2 ^ i) = 1 := by decide +kernel
theorem single_pc {n l : Nat} (hn : n ≤ 5) (hl : l < 2 ^ n) : Single n l ↔ pc l = 1 := by
  have hP : 2 ^ n ≤ 2 ^ 5 := Nat.pow_le_pow_right (by omega) hn
  constructor
  · rintro ⟨i, hi⟩
    have hin := (hi i).2 rfl
    have : l = 2 ^ i := Nat.eq_of_testBit_eq fun j => by
      rw [Nat.testBit_two_pow]
      rcases Nat.lt_or_ge j n with hj | hj
      · by_cases e : i = j
        · subst e
          rw [hin.2]
          simp
        · rw [decide_eq_false e]
          rw [← Bool.not_eq_true]
          exact fun h => e ((hi j).1 ⟨hj, h⟩).symm
      · rw [Nat.testBit_lt_two_pow (Nat.lt_of_lt_of_le hl (Nat.pow_le_pow_right (by omega) hj))]
        rw [decide_eq_false (by have := hin.1; omega)]
    rw [this]
    exact pc_pow i (by have := hin.1; omega)
  · intro h
    obtain ⟨i, hi, rfl⟩ := pc_one l (by omega) h
    refine ⟨i, fun j => ?_⟩
    unfold InS
    rw [Nat.testBit_two_pow, decide_eq_true_eq]
    refine ⟨fun h => h.2.symm, fun h => ⟨?_, h.symm⟩⟩
    subst h
    rcases Nat.lt_or_ge j n with h9 | h9
    · exact h9
    · have := Nat.pow_le_pow_right (n := 2) (by omega) h9
      omega
theorem rest_c {w : World} {hv bv : Value} {h : List Int} {b : List Atm} (sh : SlI w hv h) (sb : SlA w bv b) :
    Calls Try.prog 10 #[.agg #[hv, bv]] w fun e w' => (okQ h b = false ∧ e = .returned (.tuple #[.int .i64 0, .int .i64 2]) ∨ okQ h b = true ∧ ∃ l2 p2, e = .returned (.tuple #[.int .i64 (restV l2 : Nat), .int .i64 0]) ∧ EarsR b.length (2 ^ b.length - 1) (varsOf b) (List.replicate b.length (-1)) l2 p2 ∧ l2 < 2 ^ b.length) ∧ Grow w w' := by
  refine f10_calls _ ?_
  refine ⟨_, rfl, fun w1 hw1 => ?_⟩
  have g1 := alloc_grow hw1
  have p0 := boxc hw1 0 hv rfl
  have p1 := boxc hw1 1 bv rfl
  refine ⟨[_, _], rfl, two p0 p1, (valid_c (sh.grow g1) (sb.gr g1)).mono ?_⟩
  rintro e w4 ⟨rfl, g4⟩
  have g04 := g1.trans g4
  refine ⟨_, rfl, condP_i (fun hn => ⟨.inl ⟨by simpa using hn, rfl⟩, g04⟩) fun hk => ?_⟩
  have ok : okQ h b = true := by simpa using hk
  have hbl := okQ_len ok
  have oa : ∀ a ∈ b, okA a = true := fun a ha => by
    simp only [okQ, Bool.and_eq_true, List.all_eq_true] at ok
    exact ok.1.2 a ha
  refine ⟨[_, _], rfl, two (g4.cell p0) (g4.cell p1), (ears_c (sb.gr g04) oa hbl.1 hbl.2.1).mono ?_⟩
  rintro e w8 ⟨pv, l2, p2, rfl, hE, hl, hp, sp, g8⟩
  exact ⟨_, _, rfl, .inr ⟨ok, l2, p2, rfl, hE, hl⟩, g04.trans g8⟩
theorem joinTree_c {w : World} {hv bv : Value} {h : List Int} {b : List Atm} (sh : SlI w hv h) (sb : SlA w bv b) :
    Calls Try.prog 14 #[.agg #[hv, bv]] w fun e w' => (okQ h b = false ∧ e = .returned (.tuple #[.slice none 0 0, .int .i64 2]) ∨ okQ h b = true ∧ ∃ l2 p2, EarsR b.length (2 ^ b.length - 1) (varsOf b) (List.replicate b.length (-1)) l2 p2 ∧ l2 < 2 ^ b.length ∧ (restV l2 ≠ 0 ∧ e = .returned (.tuple #[.slice none 0 0, .int .i64 8]) ∨ restV l2 = 0 ∧ ∃ v, e = .returned (.tuple #[v, .int .i64 0]) ∧ SlI w' v p2)) ∧ Grow w w' := by
  refine f14_calls _ ?_
  refine ⟨_, rfl, fun w1 hw1 => ?_⟩
  have g1 := alloc_grow hw1
  have p0 := boxc hw1 0 hv rfl
  have p1 := boxc hw1 1 bv rfl
  refine ⟨[_, _], rfl, two p0 p1, (valid_c (sh.grow g1) (sb.gr g1)).mono ?_⟩
  rintro e w4 ⟨rfl, g4⟩
  have g04 := g1.trans g4
  refine ⟨_, rfl, condP_i (fun hn => ⟨.inl ⟨by simpa using hn, rfl⟩, g04⟩) fun hk => ?_⟩
  have ok : okQ h b = true := by simpa using hk
  have hbl := okQ_len ok
  have oa : ∀ a ∈ b, okA a = true := fun a ha => by
    simp only [okQ, Bool.and_eq_true, List.all_eq_true] at ok
    exact ok.1.2 a ha
  refine ⟨[_, _], rfl, two (g4.cell p0) (g4.cell p1), (ears_c (sb.gr g04) oa hbl.1 hbl.2.1).mono ?_⟩
  rintro e w8 ⟨pv, l2, p2, rfl, hE, hl, hp, sp, g8⟩
  refine ⟨_, _, rfl, condP_i (fun h1 => ⟨.inr ⟨ok, l2, p2, hE, hl, .inl ⟨?_, rfl⟩⟩, g04.trans g8⟩) fun h1 => ⟨.inr ⟨ok, l2, p2, hE, hl, .inr ⟨?_, _, rfl, sp⟩⟩, g04.trans g8⟩⟩
  · intro h0
    have : (((if pc l2 = 1 then 0 else l2 : Nat)) : Int) = 0 := by
      unfold restV at h0
      rw [h0]
      rfl
    rw [this] at h1
    simp at h1
  · have h1 : (((if pc l2 = 1 then 0 else l2 : Nat)) : Int) = 0 := by simpa using h1
    unfold restV
    omega
end Go.Proofs.Ytddpjdlhgggbkaa
