/- Contract: the deletion of ears, by the program. No condition. -/
import Derived.Test.YtmjpnfapjcfejaaMr
import Derived.Test.YtmjpnfapjcfejaaMx
import Derived.Test.YtmjpnfapjcfejaaTd
import Derived.Test.YtmjpnfapjcfejaaMi
namespace Go.Proofs.Ytmjpnfapjcfejaa
open Go Go.RowKit VC
set_option linter.unusedSimpArgs false
set_option linter.unusedVariables false

def ocX1 (x : Int) : Int := IntKind.wrap .u64 ((iAnd .u64 (iShr .u64 x 1) 6148914691236517205) + (iAnd .u64 x 6148914691236517205))
def ocX2 (x : Int) : Int := IntKind.wrap .u64 ((iAnd .u64 (iShr .u64 x 2) 3689348814741910323) + (iAnd .u64 x 3689348814741910323))
def ocX3 (x : Int) : Int := iAnd .u64 (IntKind.wrap .u64 ((iShr .u64 x 4) + x)) 1085102592571150095
def ocX4 (x : Int) : Int := IntKind.wrap .u64 (x + (iShr .u64 x 8))
def ocX5 (x : Int) : Int := IntKind.wrap .u64 (x + (iShr .u64 x 16))
def ocX6 (x : Int) : Int := IntKind.wrap .u64 (x + (iShr .u64 x 32))
def ocXX (x : Int) : Int := iAnd .i64 (IntKind.wrap .i64 (ocX6 (ocX5 (ocX4 (ocX3 (ocX2 (ocX1 x))))))) 127
theorem ocXAll : ∀ s, s < 64 → (ocXX ((s : Nat) : Int) == ((pc s : Nat) : Int)) = true := by decide +kernel
theorem ones64S_c {s : Nat} (h : s < 64) {w : World} : Calls Try.prog 93 #[.int .u64 (s : Int)] w (Ret w (.int .i64 (pc s : Int))) := by
  refine f93_calls _ ?_
  have hk := ocXAll s h
  refine ⟨by omega, by omega, by omega, by omega, by omega, by omega, ?_, Grow.refl w⟩
  have : ocXX (s : Int) = ((pc s : Nat) : Int) := by simpa using hk
  rw [← this]
  rfl
theorem onesS_c {s : Nat} (h : s < 64) {w : World} : Calls Try.prog 72 #[.int .u64 (s : Int)] w (Ret w (.int .i64 (pc s : Int))) := by
  refine f72_calls _ ?_
  refine (ones64S_c h).mono ?_
  rintro e w' ⟨rfl, hg⟩
  exact ⟨_, rfl, rfl, hg⟩
theorem ownSelf {w : World} {B : Nat} {e : TypeId} {sz g n c : Nat} {cs : List Value} (h : Own w B e sz (.slice (some ⟨g, 0, none⟩) n c) n cs) : Own w g e sz (.slice (some ⟨g, 0, none⟩) n c) n cs := by
  refine ⟨h.1, .inr ?_⟩
  rcases h.2 with ⟨h1, _⟩ | ⟨g', cap', cur, he, hb, rest⟩
  · cases h1
  · simp only [Value.slice.injEq, Option.some.injEq, Addr.mk.injEq, and_true, true_and] at he
    obtain ⟨rfl, rfl⟩ := he
    exact ⟨_, _, cur, rfl, Nat.le_refl _, rest⟩
def intN (V : List Nat) : List Int := V.map fun (x : Nat) => (x : Int)
theorem intN_len (V : List Nat) : (intN V).length = V.length := by simp [intN]
/-- An array of ints in the block A. -/
abbrev Arr (w : World) (A n : Nat) (xs : List Int) : Prop := Own w A 3 1 (.slice (some ⟨A, 0, none⟩) n n) n (xs.map VC.encI)
theorem Arr.put {w w' : World} {A n i : Nat} {xs : List Int} {z : Int} (h : Arr w A n xs) (hi : i < n) (hw : w' = w.setCell ⟨A, i, none⟩ (.int .i64 z)) : Arr w' A n (xs.set i z) := by
  have h9 := Own.set h hi hw
  have e : (xs.map VC.encI).set i (Value.int .i64 z) = (xs.set i z).map VC.encI := by
    rw [show Value.int .i64 z = VC.encI z from rfl, ← List.map_set]
  rwa [e] at h9
theorem Arr.sl {w : World} {A n : Nat} {xs : List Int} (h : Arr w A n xs) (hl : xs.length = n) : SlI w (.slice (some ⟨A, 0, none⟩) n n) xs := Own.slI h
def encP : Option (Nat × Nat) → Int × Int
  | none => (-1, -1)
  | some (i, k) => ((i : Int), (k : Int))
theorem intN_get {V : List Nat} {i : Nat} (hi : i < V.length) : (intN V)[i]'(by rw [intN_len]; exact hi) = ((V.getD i 0 : Nat) : Int) := by
  simp [intN, List.getD, hi]
theorem intN_set (V : List Nat) (i z : Nat) : (intN V).set i (z : Int) = intN (V.set i z) := by
  simp [intN, List.map_set]
theorem othG_lt {left : Nat} {V : List Nat} {i : Nat} (hV : ∀ k, V.getD k 0 < 256) : ∀ j, othG left V i (List.range j) < 256 := fun j => by
  refine Nat.lt_pow_two_of_testBit (n := 8) _ fun x hx => ?_
  cases h : (othG left V i (List.range j)).testBit x with
  | false => rfl
  | true =>
    unfold othG at h
    rw [oth_go] at h
    rcases h with h | ⟨k, -, -, -, h⟩
    · simp at h
    · rw [Nat.testBit_lt_two_pow (Nat.lt_of_lt_of_le (hV k) (Nat.pow_le_pow_right (by omega) hx : 2 ^ 8 ≤ 2 ^ x))] at h
      cases h
theorem othG_succ (left : Nat) (V : List Nat) (i j : Nat) : othG left V i (List.range (j + 1)) = if j ≠ i ∧ left.testBit j = true then othG left V i (List.range j) ||| V.getD j 0 else othG left V i (List.range j) := by
  unfold othG
  rw [List.range_succ, List.foldl_append]
  rfl
theorem cutK_lt {n left : Nat} {V : List Nat} (hl : V.length = n) (hV : ∀ k, V.getD k 0 < 256) : ∀ k, k ≤ n → (cutK n left V k).length = n ∧ ∀ j, (cutK n left V k).getD j 0 < 256
  | 0, _ => ⟨hl, hV⟩
  | k + 1, hk => by
    obtain ⟨h1, h2⟩ := cutK_lt (left := left) hl hV k (by omega)
    rw [cutK_succ]
    refine ⟨by unfold cutN; rw [List.length_set]; exact h1, fun j => ?_⟩
    rw [cut_get h1 (by omega)]
    split
    · exact Nat.lt_of_le_of_lt Nat.and_le_left (h2 k)
    · exact h2 j
/-- Between the rounds. -/
structure EarW (w20 : World) (A G n : Nat) (V0 : List Nat) (w' : World) (left : Int) (l : Nat) (V : List Nat) (p : List Int) : Prop where
  le : left = (l : Int)
  arr : Arr w' A n (intN V)
  par : Arr w' G n p
  fr : Fr (fun i => i = A ∨ i = G) w20 w'
  ll : l < 2 ^ n
  lV : V.length = n
  bV : ∀ k, V.getD k 0 < 256
  lp : p.length = n
  run : ∀ l2 p2, EarsR n l V p l2 p2 → EarsR n (2 ^ n - 1) V0 (List.replicate n (-1)) l2 p2
/-- The rounds of the deletion. -/
theorem clr_eq {l i : Nat} (hi : i < 63) (hl : l < 9223372036854775808) : iAndNot .i64 (l : Int) (iShl .i64 1 (i : Int)) = ((clr l i : Nat) : Int) := by
  have : 2 ^ i < 2 ^ 63 := Nat.pow_lt_pow_right (by omega) hi
  rw [iShl_one hi, iAndNot_nat hl (by omega)]
  rfl
theorem andNot_zero {a b : Nat} (ha : a < 256) (hb : b < 256) : (iAndNot .i64 (a : Int) (b : Int) = 0) ↔ a &&& b = a := by
  rw [iAndNot_nat (by omega) (by omega)]
  constructor
  · intro h
    have h : nSub a b = 0 := by omega
    refine sub_bits.2 fun x hx => ?_
    have h2 := nSub_bit a b x
    rw [h, Nat.zero_testBit, hx] at h2
    simpa using h2.symm
  · intro h
    have : nSub a b = 0 := Nat.eq_of_testBit_eq fun x => by
      rw [nSub_bit, Nat.zero_testBit]
      cases hx : a.testBit x with
      | false => rfl
      | true => rw [sub_bits.1 h x hx]; rfl
    rw [this]
    rfl
end Go.Proofs.Ytmjpnfapjcfejaa
