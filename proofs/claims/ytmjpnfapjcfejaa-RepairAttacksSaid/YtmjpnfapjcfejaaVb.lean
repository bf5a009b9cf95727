/- Bits: Go's operations on small sets, as operations on numbers. No program, no condition. -/
import Derived.Test.YtmjpnfapjcfejaaVo
namespace Go.Proofs.Ytmjpnfapjcfejaa.VC
open Go Go.RowKit
set_option linter.unusedSimpArgs false
set_option linter.unusedVariables false

theorem wrap_nat {n : Nat} (h : n < 9223372036854775808) : IntKind.i64.wrap (n : Int) = n := by rw [IntKind.wrap_i64]; omega
theorem bits64 : IntKind.i64.bits = 64 := rfl
theorem ofInt_nat {n : Nat} (h : n < 9223372036854775808) : (BitVec.ofInt 64 (n : Int)).toNat = n := by
  rw [BitVec.toNat_ofInt]; omega
/-- a without b. -/
def nSub (a b : Nat) : Nat := a ^^^ (a &&& b)
theorem nSub_bit (a b i : Nat) : (nSub a b).testBit i = (a.testBit i && !b.testBit i) := by
  simp only [nSub, Nat.testBit_xor, Nat.testBit_and]
  cases a.testBit i <;> cases b.testBit i <;> rfl
theorem and_lt {a b n : Nat} (h : a < 2 ^ n) : a &&& b < 2 ^ n := Nat.lt_of_le_of_lt Nat.and_le_left h
theorem nSub_lt {a b n : Nat} (h : a < 2 ^ n) : nSub a b < 2 ^ n := Nat.xor_lt_two_pow h (and_lt h)
theorem iAnd_nat {a b : Nat} (ha : a < 9223372036854775808) (hb : b < 9223372036854775808) : iAnd .i64 (a : Int) (b : Int) = ((a &&& b : Nat) : Int) := by
  have h : a &&& b < 9223372036854775808 := Nat.lt_of_le_of_lt Nat.and_le_left ha
  show IntKind.i64.wrap (((BitVec.ofInt 64 (a : Int) &&& BitVec.ofInt 64 (b : Int)).toNat : Nat) : Int) = _
  rw [BitVec.toNat_and, ofInt_nat ha, ofInt_nat hb, wrap_nat h]
theorem iOr_nat {a b : Nat} (ha : a < 9223372036854775808) (hb : b < 9223372036854775808) : iOr .i64 (a : Int) (b : Int) = ((a ||| b : Nat) : Int) := by
  have h : a ||| b < 2 ^ 63 := Nat.or_lt_two_pow (by omega) (by omega)
  show IntKind.i64.wrap (((BitVec.ofInt 64 (a : Int) ||| BitVec.ofInt 64 (b : Int)).toNat : Nat) : Int) = _
  rw [BitVec.toNat_or, ofInt_nat ha, ofInt_nat hb, wrap_nat (show a ||| b < 9223372036854775808 by omega)]
theorem iXor_nat {a b : Nat} (ha : a < 9223372036854775808) (hb : b < 9223372036854775808) : iXor .i64 (a : Int) (b : Int) = ((a ^^^ b : Nat) : Int) := by
  have h : a ^^^ b < 2 ^ 63 := Nat.xor_lt_two_pow (by omega) (by omega)
  show IntKind.i64.wrap (((BitVec.ofInt 64 (a : Int) ^^^ BitVec.ofInt 64 (b : Int)).toNat : Nat) : Int) = _
  rw [BitVec.toNat_xor, ofInt_nat ha, ofInt_nat hb, wrap_nat (show a ^^^ b < 9223372036854775808 by omega)]
theorem not_and {a b : Nat} (ha : a < 2 ^ 64) (hb : b < 2 ^ 64) : a &&& (2 ^ 64 - 1 - b) = nSub a b := by
  apply Nat.eq_of_testBit_eq
  intro i
  have e : 2 ^ 64 - 1 - b = 2 ^ 64 - (b + 1) := by omega
  rw [e, Nat.testBit_and, nSub_bit, Nat.testBit_two_pow_sub_succ hb]
  by_cases hi : i < 64
  · simp [hi]
  · have : a.testBit i = false := Nat.testBit_lt_two_pow (Nat.lt_of_lt_of_le ha (Nat.pow_le_pow_right (by omega) (by omega)))
    simp [this]
theorem iAndNot_nat {a b : Nat} (ha : a < 9223372036854775808) (hb : b < 9223372036854775808) : iAndNot .i64 (a : Int) (b : Int) = ((nSub a b : Nat) : Int) := by
  have h : nSub a b < 2 ^ 63 := nSub_lt (by omega)
  show IntKind.i64.wrap (((BitVec.ofInt 64 (a : Int) &&& ~~~ BitVec.ofInt 64 (b : Int)).toNat : Nat) : Int) = _
  rw [BitVec.toNat_and, BitVec.toNat_not, ofInt_nat ha, ofInt_nat hb]
  rw [not_and (by omega) (by omega), wrap_nat (by omega)]
theorem iShl_nat {a i : Nat} (hi : i ≤ 64) (h : a * 2 ^ i < 9223372036854775808) : iShl .i64 (a : Int) (i : Int) = ((a * 2 ^ i : Nat) : Int) := by
  have e : min (Int.toNat (i : Int)) IntKind.i64.bits = i := by simp [bits64]; omega
  simp only [iShl, e]
  rw [show (a : Int) * 2 ^ i = ((a * 2 ^ i : Nat) : Int) by simp, wrap_nat h]
theorem iShl_one {i : Nat} (h : i < 63) : iShl .i64 1 (i : Int) = ((2 ^ i : Nat) : Int) := by
  have h2 : 1 * 2 ^ i < 9223372036854775808 := by
    have := Nat.pow_lt_pow_right (a := 2) (by omega) h
    omega
  have := iShl_nat (a := 1) (i := i) (by omega) h2
  simpa using this
theorem iShr_nat {a i : Nat} (hi : i ≤ 64) : iShr .i64 (a : Int) (i : Int) = ((a >>> i : Nat) : Int) := by
  have e : min (Int.toNat (i : Int)) IntKind.i64.bits = i := by simp [bits64]; omega
  simp only [iShr, e]
  rw [Int.fdiv_eq_ediv_of_nonneg _ (by exact_mod_cast Nat.zero_le (2 ^ i)), Nat.shiftRight_eq_div_pow]
  simp
/-- The answer of 'x>>i&1', whatever x is. -/
def ibit (x : Int) (i : Nat) : Int := x.fdiv (2 ^ i) % 2
theorem iAnd_one (x : Int) : iAnd .i64 x 1 = x % 2 := by
  have h1 : (BitVec.ofInt 64 1).toNat = 1 := by decide
  show IntKind.i64.wrap (((BitVec.ofInt 64 x &&& BitVec.ofInt 64 1).toNat : Nat) : Int) = _
  rw [BitVec.toNat_and, h1, BitVec.toNat_ofInt, Nat.and_one_is_mod]
  have e : (((x % (2 ^ 64 : Nat)).toNat % 2 : Nat) : Int) = x % 2 := by
    have : (2 ^ 64 : Nat) = 18446744073709551616 := by decide
    rw [this]; omega
  rw [e]
  rw [IntKind.wrap_i64]; omega
theorem iBit (x : Int) {i : Nat} (hi : i ≤ 64) : iAnd .i64 (iShr .i64 x (i : Int)) 1 = ibit x i := by
  have e : min (Int.toNat (i : Int)) IntKind.i64.bits = i := by simp [bits64]; omega
  rw [iAnd_one, ibit]
  simp only [iShr, e]
theorem ibit_nat (a i : Nat) : ibit (a : Int) i = if a.testBit i then 1 else 0 := by
  rw [ibit, Int.fdiv_eq_ediv_of_nonneg _ (by exact_mod_cast Nat.zero_le (2 ^ i)), Nat.testBit_eq_decide_div_mod_eq]
  have : ((a : Int) / 2 ^ i) % 2 = ((a / 2 ^ i % 2 : Nat) : Int) := by simp
  rw [this]
  rcases Nat.mod_two_eq_zero_or_one (a / 2 ^ i) with h | h <;> simp [h]
theorem ibit_01 (x : Int) (i : Nat) : ibit x i = 0 ∨ ibit x i = 1 := by unfold ibit; omega

/-! ## Sets of at most twelve elements -/
def tz (s : Nat) : Nat := ((List.range 12).find? s.testBit).getD 64
def els (s : Nat) : List Nat := (List.range 12).filter s.testBit
def pc (s : Nat) : Nat := (els s).length
theorem mem_els {s i : Nat} : i ∈ els s ↔ i < 12 ∧ s.testBit i = true := by simp [els]
theorem bit_lt {s i n : Nat} (h : s < 2 ^ n) (hb : s.testBit i = true) : i < n := by
  rcases Nat.lt_or_ge i n with h1 | h1
  · exact h1
  · rw [Nat.testBit_lt_two_pow (Nat.lt_of_lt_of_le h (Nat.pow_le_pow_right (by omega) h1))] at hb; cases hb
def stepOk (s : Nat) : Bool := s == 0 || (els s == tz s :: els (s &&& (s - 1)) && decide (s &&& (s - 1) < s) && decide (tz s < 12))
theorem stepAll' : ∀ a, a < 64 → ∀ b, b < 64 → stepOk (a * 64 + b) = true := by decide +kernel
theorem all4096 {p : Nat → Prop} (h : ∀ a, a < 64 → ∀ b, b < 64 → p (a * 64 + b)) (s : Nat) (hs : s < 4096) : p s := by
  have := h (s / 64) (by omega) (s % 64) (by omega)
  rwa [show s / 64 * 64 + s % 64 = s by omega] at this
theorem stepAll : ∀ s, s < 4096 → stepOk s = true := all4096 stepAll'
theorem els_step {s : Nat} (h : s < 4096) (h0 : s ≠ 0) : els s = tz s :: els (s &&& (s - 1)) ∧ s &&& (s - 1) < s ∧ tz s < 12 := by
  have := stepAll s h
  simp only [stepOk, Bool.or_eq_true, beq_iff_eq, h0, false_or, Bool.and_eq_true, decide_eq_true_eq] at this
  exact ⟨this.1.1, this.1.2, this.2⟩
theorem els_zero : els 0 = [] := by decide
theorem set_ext {s t n : Nat} (hs : s < 2 ^ n) (ht : t < 2 ^ n) (h : ∀ i, i < n → s.testBit i = t.testBit i) : s = t := by
  apply Nat.eq_of_testBit_eq
  intro i
  by_cases hi : i < n
  · exact h i hi
  · rw [Nat.testBit_lt_two_pow (Nat.lt_of_lt_of_le hs (Nat.pow_le_pow_right (by omega) (by omega))), Nat.testBit_lt_two_pow (Nat.lt_of_lt_of_le ht (Nat.pow_le_pow_right (by omega) (by omega)))]
theorem set_zero {s : Nat} : s = 0 ↔ ∀ i, s.testBit i = false := by
  constructor
  · rintro rfl i; simp
  · intro h; apply Nat.eq_of_testBit_eq; intro i; simp [h i]
end Go.Proofs.Ytmjpnfapjcfejaa.VC
