/- Contract: the deletion of ears, by the program. No condition. -/
import Derived.Test.YtleiddajojgmmaaDoorTa
import Derived.Test.YtleiddajojgmmaaDoorMx
import Derived.Test.YtleiddajojgmmaaDoorTe
import Derived.Test.YtleiddajojgmmaaDoorGm
namespace Go.Proofs.YtleiddajojgmmaaDoor
open Go Go.RowKit VC
set_option linter.unusedSimpArgs false
set_option linter.unusedVariables false

def ocX1 (x : Int) : Int := IntKind.wrap .u64 ((iAnd .u64 (iShr .u64 x 1) 6148914691236517205) + (iAnd .u64 x 6148914691236517205))
def ocX2 (x : Int) : Int := IntKind.wrap .u64 ((iAnd .u64 (iShr .u64 x 2) 3689348814741910323) + (iAnd .u64 x 3689348814741910323))
def ocX3 (x : Int) : Int := iAnd .u64 (IntKind.wrap .u64 ((iShr .u64 x 4) + x)) 1085102592571150095
def ocX4 (x : Int) : Int := IntKind.wrap .u64 (x + (iShr .u64 x 8))
def ocX5 (x : Int) : Int := IntKind.wrap .u64 (x + (iShr .u64 x 16))
def ocX6 (x : Int) : Int := IntKind.wrap .u64 (x + (iShr .u64 x 32))
def ocXX (x : Int) : Int := iAnd .i64 (IntKind.wrap .i64 (ocX6 (ocX5 (ocX4 (ocX3 (ocX2 (ocX1 x))))))) 127
theorem ocXAll : ∀ s, s < 64 → (ocXX ((s : Nat) : Int) == ((pc s : Nat) : Int)) = true := by decide +kernel
theorem ones64S_c {s : Nat} (h : s < 64) {w : World} : Calls Tryd.prog 67 #[.int .u64 (s : Int)] w (Ret w (.int .i64 (pc s : Int))) := by
  refine f67_calls _ ?_
  have hk := ocXAll s h
  refine ⟨by omega, by omega, by omega, by omega, by omega, by omega, ?_, Grow.refl w⟩
  have : ocXX (s : Int) = ((pc s : Nat) : Int) := by simpa using hk
  rw [← this]
  rfl
theorem onesS_c {s : Nat} (h : s < 64) {w : World} : Calls Tryd.prog 45 #[.int .u64 (s : Int)] w (Ret w (.int .i64 (pc s : Int))) := by
  refine f45_calls _ ?_
  refine (ones64S_c h).mono ?_
  rintro e w' ⟨rfl, hg⟩
  exact ⟨_, rfl, rfl, hg⟩
theorem ownSelf {w : World} {B : Nat} {e : TypeId} {sz g n c : Nat} {cs : List Value} (h : Own w B e sz (.slice (some ⟨g, 0, none⟩) n c) n cs) : Own w g e sz (.slice (some ⟨g, 0, none⟩) n c) n cs := by
  refine ⟨h.1, .inr ?_⟩
  rcases h.2 with ⟨h1, _⟩ | ⟨g', cap', cur, he, hb, rest⟩
  · cases h1
  · simp only [Value.slice.injEq, Option.some.injEq, Addr.mk.injEq, and_true, true_and] at he
    obtain ⟨rfl, rfl⟩ := he
    exact ⟨_, _, cur, rfl, Nat.le_refl _, rest⟩
def intN (V : List Nat) : List Int := V.map fun (x : Nat) => (x : Int)
theorem intN_len (V : List Nat) : (intN V).length = V.length := by simp [intN]
/-- An array of ints in the block A. -/
abbrev Arr (w : World) (A n : Nat) (xs : List Int) : Prop := Own w A 3 1 (.slice (some ⟨A, 0, none⟩) n n) n (xs.map VC.encI)
theorem Arr.put {w w' : World} {A n i : Nat} {xs : List Int} {z : Int} (h : Arr w A n xs) (hi : i < n) (hw : w' = w.setCell ⟨A, i, none⟩ (.int .i64 z)) : Arr w' A n (xs.set i z) := by
  have h9 := Own.set h hi hw
  have e : (xs.map VC.encI).set i (Value.int .i64 z) = (xs.set i z).map VC.encI := by
    rw [show Value.int .i64 z = VC.encI z from rfl, ← List.map_set]
  rwa [e] at h9
theorem Arr.sl {w : World} {A n : Nat} {xs : List Int} (h : Arr w A n xs) (hl : xs.length = n) : SlI w (.slice (some ⟨A, 0, none⟩) n n) xs := Own.slI h
def encP : Option (Nat × Nat) → Int × Int
  | none => (-1, -1)
  | some (i, k) => ((i : Int), (k : Int))
theorem intN_get {V : List Nat} {i : Nat} (hi : i < V.length) : (intN V)[i]'(by rw [intN_len]; exact hi) = ((V.getD i 0 : Nat) : Int) := by
  simp [intN, List.getD, hi]
theorem intN_set (V : List Nat) (i z : Nat) : (intN V).set i (z : Int) = intN (V.set i z) := by
  simp [intN, List.map_set]
theorem othG_lt {left : Nat} {V : List Nat} {i : Nat} (hV : ∀ k, V.getD k 0 < 256) : ∀ j, othG left V i (List.range j) < 256 := fun j => by
  refine Nat.lt_pow_two_of_testBit (n := 8) _ fun x hx => ?_
  cases h : (othG left V i (List.range j)).testBit x with
  | false => rfl
  | true =>
    unfold othG at h
    rw [oth_go] at h
    rcases h with h | ⟨k, -, -, -, h⟩
    · simp at h
    · rw [Nat.testBit_lt_two_pow (Nat.lt_of_lt_of_le (hV k) (Nat.pow_le_pow_right (by omega) hx : 2 ^ 8 ≤ 2 ^ x))] at h
      cases h
theorem othG_succ (left : Nat) (V : List Nat) (i j : Nat) : othG left V i (List.range (j + 1)) = if j ≠ i ∧ left.testBit j = true then othG left V i (List.range j) ||| V.getD j 0 else othG left V i (List.range j) := by
  unfold othG
  rw [List.range_succ, List.foldl_append]
  rfl
theorem cutK_lt {n left : Nat} {V : List Nat} (hl : V.length = n) (hV : ∀ k, V.getD k 0 < 256) : ∀ k, k ≤ n → (cutK n left V k).length = n ∧ ∀ j, (cutK n left V k).getD j 0 < 256
  | 0, _ => ⟨hl, hV⟩
  | k + 1, hk => by
    obtain ⟨h1, h2⟩ := cutK_lt (left := left) hl hV k (by omega)
    rw [cutK_succ]
    refine ⟨by unfold cutN; rw [List.length_set]; exact h1, fun j => ?_⟩
    rw [cut_get h1 (by omega)]
    split
    · exact Nat.lt_of_le_of_lt Nat.and_le_left (h2 k)
    · exact h2 j
/-- Between the rounds. -/
structure EarW (w20 : World) (A G n : Nat) (V0 : List Nat) (w' : World) (left : Int) (l : Nat) (V : List Nat) (p : List Int) : Prop where
  le : left = (l : Int)
  arr : Arr w' A n (intN V)
  par : Arr w' G n p
  fr : Fr (fun i => i = A ∨ i = G) w20 w'
  ll : l < 2 ^ n
  lV : V.length = n
  bV : ∀ k, V.getD k 0 < 256
  lp : p.length = n
  run : ∀ l2 p2, EarsR n l V p l2 p2 → EarsR n (2 ^ n - 1) V0 (List.replicate n (-1)) l2 p2
/-- The rounds of the deletion. -/
theorem clr_eq {l i : Nat} (hi : i < 63) (hl : l < 9223372036854775808) : iAndNot .i64 (l : Int) (iShl .i64 1 (i : Int)) = ((clr l i : Nat) : Int) := by
  have : 2 ^ i < 2 ^ 63 := Nat.pow_lt_pow_right (by omega) hi
  rw [iShl_one hi, iAndNot_nat hl (by omega)]
  rfl
theorem andNot_zero {a b : Nat} (ha : a < 256) (hb : b < 256) : (iAndNot .i64 (a : Int) (b : Int) = 0) ↔ a &&& b = a := by
  rw [iAndNot_nat (by omega) (by omega)]
  constructor
  · intro h
    have h : nSub a b = 0 := by omega
    refine sub_bits.2 fun x hx => ?_
    have h2 := nSub_bit a b x
    rw [h, Nat.zero_testBit, hx] at h2
    simpa using h2.symm
  · intro h
    have : nSub a b = 0 := Nat.eq_of_testBit_eq fun x => by
      rw [nSub_bit, Nat.zero_testBit]
      cases hx : a.testBit x with
      | false => rfl
      | true => rw [sub_bits.1 h x hx]; rfl
    rw [this]
    rfl
end Go.Proofs.YtleiddajojgmmaaDoor

/- Contract: the deletion of ears, by the program (ears). No condition. -/
namespace Go.Proofs.YtleiddajojgmmaaDoor
open Go Go.RowKit VC
set_option linter.unusedSimpArgs false
set_option linter.unusedVariables false

def varsOf (b : List Atm) : List Nat := b.map fun a => varsL a.2
theorem bit_oneT {s i : Nat} (h : i < 63) : (iAnd .i64 (iShr .i64 (s : Int) (i : Int)) 1 = 1) ↔ s.testBit i = true := by
  rw [iBit _ (by omega), ibit_nat]
  cases s.testBit i <;> simp
theorem ears_c {w : World} {hv bv : Value} {b : List Atm} (sb : SlA w bv b) (ob : ∀ a ∈ b, okA a = true) (h1 : 1 ≤ b.length) (h5 : b.length ≤ 5) :
    Calls Tryd.prog 26 #[.agg #[hv, bv]] w fun e w' => ∃ pv l2 p2, e = .returned (.tuple #[.int .i64 ((if pc l2 = 1 then 0 else l2 : Nat) : Int), pv]) ∧ EarsR b.length (2 ^ b.length - 1) (varsOf b) (List.replicate b.length (-1)) l2 p2 ∧ l2 < 2 ^ b.length ∧ p2.length = b.length ∧ SlI w' pv p2 ∧ Grow w w' := by
  refine f26_calls _ ?_
  refine ⟨_, rfl, fun w1 hw1 => ?_⟩
  have g1 := alloc_grow hw1
  have s1 := alloc_size hw1
  have p1 := boxc hw1 1 bv rfl
  have bT : ∀ a ∈ b, ∀ x ∈ a.2, -9 ≤ x ∧ x ≤ 7 := fun a ha => (okA_iff.1 (ob a ha)).2.2.2.2
  refine ⟨_, p1, SlX.ln (sb.gr g1) ?_⟩
  obtain ⟨n, hn⟩ : ∃ n, n = b.length := ⟨_, rfl⟩
  rw [← hn] at h1 h5 ⊢
  refine ⟨⟨by omega, by omega, by omega, by omega⟩, fun w7 hw7 w8 hw8 => ?_⟩
  rw [Int.toNat_natCast] at hw7 ⊢
  have g7 := alloc_grow hw7
  have s7 := alloc_size hw7
  have g8 := alloc_grow hw8
  have s8 := alloc_size hw8
  obtain ⟨A, hA⟩ : ∃ A, A = w1.heap.size := ⟨_, rfl⟩
  have hmade : Arr w7 A n (List.replicate n 0) := by
    have := Own.made hw7 (n := n) (by omega) (Nat.le_refl _) (by omega)
    rw [hA]
    have e : (List.replicate n (0 : Int)).map VC.encI = List.replicate n (Value.int .i64 0) := by simp [VC.encI]
    show Own w7 w1.heap.size 3 1 (.slice (some ⟨w1.heap.size, 0, none⟩) n n) n ((List.replicate n (0 : Int)).map VC.encI)
    rw [e]
    exact this
  have hm1 := slI_lit (xs := [-1]) hw8 rfl (by simp)
  refine (repeat_c (n := n) (z := -1) hm1 h1 (by omega)).mono ?_
  rintro e w9 ⟨G, rfl, hG, g9⟩
  have hGl := Own.lt hG (k := G) rfl
  have hAG : A ≠ G := by omega
  have hG9 : Arr w9 G n (List.replicate n (-1)) := by
    have h9 : Own w9 w8.heap.size 3 1 (.slice (some ⟨G, 0, none⟩) n n) n ((List.replicate n (-1 : Int)).map VC.encI) := by
      have := hG
      unfold OwnI at this
      rwa [List.length_replicate] at this
    exact ownSelf h9
  rw [← hA]
  have g79 := g8.trans g9
  have g19 := g7.trans g79
  have g09 := g1.trans g19
  refine ⟨_, rfl, _, g19.cell p1, SlX.ln (sb.gr g09) ?_⟩
  rw [← hn]
  -- the sets of variables
  refine ⟨fun t w' => ∃ (k : Nat) (c : List Int), t = k ∧ k ≤ n ∧ c.length = n ∧ (∀ i, i < k → c.getD i 0 = (((varsOf b).getD i 0 : Nat) : Int)) ∧ Arr w' A n c ∧ Fr (fun i => i = A) w9 w', fun t _ => n - t.toNat, ⟨0, _, rfl, by omega, by simp, fun i hi => by omega, Own.grow hmade g79, Fr.refl _ _⟩, ?_⟩
  rintro - t w20 ⟨k, c, rfl, hk, hc, hval, hA20, hf20⟩
  have gw : ∀ {w'}, Fr (fun i => i = A) w9 w' → Grow w1 w' := fun hf => g19.fr hf fun i hi e => by omega
  have g120 := gw hf20
  refine condD (fun hlt => ?_) fun hge => ?_
  · have hkl : k < b.length := by omega
    refine SlX.loc (sb.gr (g1.trans g120)) rfl hkl rfl fun w26 u g26 s26 hu c0 c1 => ?_
    refine ⟨[_, _], rfl, two c0 c1, (atomVars_c hu (bT _ (List.getElem_mem hkl))).mono ?_⟩
    rintro e w29 ⟨rfl, g29⟩
    have g2629 := g26.trans g29
    have hA29 : Arr w29 A n c := Own.grow hA20 g2629
    have aX : Addr.add ⟨A, 0, none⟩ (Int.toNat (k : Int) * 1) = ⟨A, k, none⟩ := by rw [Int.toNat_natCast, Nat.mul_one, Addr.add0]
    have hkn : k < n := by omega
    refine ⟨_, rfl, _, _, _, rfl, ⟨by omega, by omega⟩, ?_⟩
    rw [aX]
    refine ⟨(Own.wr hA29 hkn).1, (Own.wr hA29 hkn).2, fun w35 hw35 => ⟨by unfold inR; omega, ⟨k + 1, c.set k ((varsL b[k].2 : Nat) : Int), by omega, by omega, by simpa using hc, fun i hi => ?_, hA29.put hkn hw35, (hf20.trans (Fr.of_grow g2629)).trans (set_fr hw35)⟩, by dsimp only; omega⟩⟩
    rw [getD_setI (by omega)]
    split
    · rename_i e
      subst e
      simp [varsOf, List.getD, hkl]
    · exact hval i (by omega)
  · have hkn : k = n := by omega
    subst hkn
    have hvl : (varsOf b).length = k := by simp [varsOf, hn]
    have ec : c = intN (varsOf b) := List.ext_getElem (by rw [intN_len, hvl, hc]) fun i a1 a2 => by
      have := hval i (by omega)
      have e1 : c.getD i 0 = c[i] := by simp [List.getD, a1]
      rw [intN_get (by rw [hvl]; omega), ← this, e1]
    rw [ec] at hA20
    have hv256 : ∀ j, (varsOf b).getD j 0 < 256 := fun j => by
      rcases Nat.lt_or_ge j b.length with hj | hj
      · simp only [varsOf, List.getD, List.getElem?_map, List.getElem?_eq_getElem hj, Option.map_some, Option.getD_some]
        exact varsL_lt (bT _ (List.getElem_mem hj))
      · simp [varsOf, List.getD, hj]
    rw [iShl_one (by omega)]
    have hP : 2 ^ k ≤ 2 ^ 5 := Nat.pow_le_pow_right (by omega) h5
    have hP1 : 1 ≤ 2 ^ k := Nat.one_le_two_pow
    have eL : (((2 ^ k : Nat) : Int) - 1) = ((2 ^ k - 1 : Nat) : Int) := by omega
    rw [eL]
    have hG20 : Arr w20 G k (List.replicate k (-1)) := Own.fr hG9 hf20 fun x hx e => by
      simp [Value.ownBlock] at hx
      omega
    refine ⟨by omega, by unfold inR; omega, fun left w' => ∃ l V p, EarW w20 A G k (varsOf b) w' left l V p, fun left _ => cnt k left.toNat, ⟨_, _, _, rfl, hA20, hG20, Fr.refl _ _, by omega, hvl, hv256, by simp, fun _ _ h => h⟩, ?_⟩
    rintro - left w40 ⟨l, V, p, E⟩
    obtain rfl := E.le
    have hAX : ∀ m : Nat, Addr.add ⟨A, 0, none⟩ (Int.toNat (m : Int) * 1) = ⟨A, m, none⟩ := fun m => by rw [Int.toNat_natCast, Nat.mul_one, Addr.add0]
    have hl64 : l < 64 := by have := E.ll; omega
    refine ⟨fun t w' => ∃ m : Nat, t = m ∧ m ≤ k ∧ Arr w' A k (intN (cutK k l V m)) ∧ Fr (fun i => i = A) w40 w', fun t _ => k - t.toNat, ⟨0, rfl, by omega, E.arr, Fr.refl _ _⟩, ?_⟩
    rintro - t w45 ⟨m, rfl, hm, hA45, hf45⟩
    have hcl := cutK_lt (left := l) E.lV E.bV m hm
    have hlen : (intN (cutK k l V m)).length = k := by rw [intN_len]; exact hcl.1
    refine condD (fun hlt => ?_) fun hge2 => ?_
    · have hmk : m < k := by omega
      refine ⟨fun oth t w' => ∃ j : Nat, t = j ∧ j ≤ k ∧ oth = ((othG l (cutK k l V m) m (List.range j) : Nat) : Int) ∧ w' = w45, fun _ t _ => k - t.toNat, ⟨0, rfl, by omega, rfl, rfl⟩, ?_⟩
      rintro - oth t w51 ⟨j, rfl, hj, rfl, rfl⟩
      have sl := hA45.sl hlen
      refine condD (fun hlt2 => ?_) fun hge3 => ?_
      · have hjk : j < k := by omega
        have step : ∀ {o : Int}, o = ((othG l (cutK k l V m) m (List.range (j + 1)) : Nat) : Int) → inR ((j : Int) + 1) ∧ ((∃ j' : Nat, (j : Int) + 1 = j' ∧ j' ≤ k ∧ o = ((othG l (cutK k l V m) m (List.range j') : Nat) : Int) ∧ w51 = w51) ∧ k - Int.toNat ((j : Int) + 1) < k - Int.toNat (j : Int)) := fun ho => ⟨by unfold inR; omega, ⟨j + 1, by omega, by omega, ho, rfl⟩, by omega⟩
        refine condP_i (fun hne => ⟨by omega, condD (fun hb => ?_) fun hb => step ?_⟩) fun heq => step ?_
        · have hne : j ≠ m := by simp at hne; omega
          have hb := (bit_oneT (by omega)).1 hb
          refine sl.rd rfl (by rw [hlen]; exact hjk) (step ?_)
          rw [intN_get (by rw [hcl.1]; exact hjk), iOr_nat (by have := othG_lt (left := l) (i := m) hcl.2 j; omega) (by have := hcl.2 j; omega), othG_succ, if_pos ⟨hne, hb⟩]
        · have hb : ¬ l.testBit j = true := fun h => hb ((bit_oneT (by omega)).2 h)
          rw [othG_succ, if_neg fun h => hb h.2]
        · have heq : j = m := by simp at heq; omega
          rw [othG_succ, if_neg fun h => h.1 heq]
      · have hjk : j = k := by omega
        subst hjk
        refine sl.rd rfl (by rw [hlen]; exact hmk) ⟨_, _, _, rfl, ⟨by omega, by omega⟩, ?_⟩
        rw [hAX]
        refine ⟨(Own.wr hA45 hmk).1, (Own.wr hA45 hmk).2, fun w63 hw63 => ⟨by unfold inR; omega, ⟨m + 1, by omega, by omega, ?_, hf45.trans (set_fr hw63)⟩, by dsimp only; omega⟩⟩
        have h9 := hA45.put hmk hw63
        rw [intN_get (by rw [hcl.1]; exact hmk), iAnd_nat (by have := hcl.2 m; omega) (by have := othG_lt (left := l) (i := m) hcl.2 j; omega), intN_set] at h9
        rw [cutK_succ]
        exact h9
    · have hmk : m = k := by omega
      subst hmk
      obtain ⟨U, hU⟩ : ∃ U, U = cutK m l V m := ⟨_, rfl⟩
      rw [← hU] at hA45 hcl hlen
      have hG45 : Arr w45 G m p := Own.fr E.par hf45 fun x hx e => by
        simp [Value.ownBlock] at hx
        omega
      refine ⟨fun ear other t w' => ∃ i : Nat, t = i ∧ i ≤ m ∧ (ear, other) = encP (pickN m l U i) ∧ Grow w45 w', fun _ _ t _ => m - t.toNat, ⟨0, rfl, by omega, rfl, Grow.refl _⟩, ?_⟩
      rintro - ear other t w70 ⟨i, rfl, hi, he, g70⟩
      refine condD (fun hlt => ?_) fun hge3 => ?_
      · have him : i < m := by omega
        refine ⟨fun ear other t w' => ∃ j : Nat, t = j ∧ j ≤ m ∧ (ear, other) = encP (pickIn l U i j (pickN m l U i)) ∧ Grow w45 w', fun _ _ t _ => m - t.toNat, ⟨0, rfl, by omega, he, g70⟩, ?_⟩
        rintro - ear2 other2 t w77 ⟨j, rfl, hj, he2, g77⟩
        have sl : SlI w77 (.slice (some ⟨A, 0, none⟩) m m) (intN U) := Arr.sl (Own.grow hA45 g77) hlen
        refine condD (fun hlt2 => ?_) fun hge4 => ?_
        · have hjm : j < m := by omega
          have no : ∀ {w'}, earT l U i j = false → Grow w77 w' → inR ((j : Int) + 1) ∧ ((∃ j' : Nat, (j : Int) + 1 = j' ∧ j' ≤ m ∧ (ear2, other2) = encP (pickIn l U i j' (pickN m l U i)) ∧ Grow w45 w') ∧ m - Int.toNat ((j : Int) + 1) < m - Int.toNat (j : Int)) := fun ht g => ⟨by unfold inR; omega, ⟨j + 1, by omega, by omega, by rw [pickIn_succ, ht]; exact he2, g77.trans g⟩, by omega⟩
          have yes : ∀ {w'}, earT l U i j = true → Grow w77 w' → inR ((j : Int) + 1) ∧ ((∃ j' : Nat, (j : Int) + 1 = j' ∧ j' ≤ m ∧ ((i : Int), (j : Int)) = encP (pickIn l U i j' (pickN m l U i)) ∧ Grow w45 w') ∧ m - Int.toNat ((j : Int) + 1) < m - Int.toNat (j : Int)) := fun ht g => ⟨by unfold inR; omega, ⟨j + 1, by omega, by omega, by rw [pickIn_succ, if_pos ht]; rfl, g77.trans g⟩, by omega⟩
          have gd : ∀ d : DM w77, Grow w77 (dr w77 d) := fun d => (Grow.refl w77).dr d
          refine condP_i (fun hne => ⟨by omega, condD (fun hbi => ⟨by omega, condD (fun hbj => ?_) fun hbj d => no ?_ (gd d)⟩) fun hbi d => no ?_ (gd d)⟩) fun heq d => no ?_ (gd d)
          · have hne : j ≠ i := by simp at hne; omega
            have hbi := (bit_oneT (by omega)).1 hbi
            have hbj := (bit_oneT (by omega)).1 hbj
            refine sl.rd rfl (by rw [hlen]; exact him) (sl.rd rfl (by rw [hlen]; exact hjm) fun d => ?_)
            rw [intN_get (by rw [hcl.1]; exact him), intN_get (by rw [hcl.1]; exact hjm)]
            refine condD (fun hz => yes ?_ (gd d)) fun hz => no ?_ (gd d)
            · have hz := (andNot_zero (hcl.2 i) (hcl.2 j)).1 hz
              simp only [earT, hbi, hbj, hz, hne, ne_eq, not_false_eq_true, decide_true, Bool.and_self]
            · have hz : ¬ U.getD i 0 &&& U.getD j 0 = U.getD i 0 := fun h => hz ((andNot_zero (hcl.2 i) (hcl.2 j)).2 h)
              rw [earT, decide_eq_false hz, Bool.and_false]
          · have hbj : l.testBit j = false := by
              rw [← Bool.not_eq_true]
              exact fun h => hbj ((bit_oneT (by omega)).2 h)
            rw [earT, hbj, Bool.and_false, Bool.false_and]
          · have hbi : l.testBit i = false := by
              rw [← Bool.not_eq_true]
              exact fun h => hbi ((bit_oneT (by omega)).2 h)
            rw [earT, hbi, Bool.and_false, Bool.false_and, Bool.false_and]
          · have heq : j = i := by simp at heq; omega
            rw [earT, decide_eq_false (fun h => h heq), Bool.false_and, Bool.false_and, Bool.false_and]
        · have hjm : j = m := by omega
          subst hjm
          exact ⟨by unfold inR; omega, ⟨i + 1, by omega, by omega, by rw [pickN_succ]; exact he2, g77⟩, by dsimp only; omega⟩
      · have him : i = m := by omega
        subst him
        have g2070 : Grow w1 w70 := by
          refine (gw hf20).fr ((E.fr.trans (hf45.mono fun x _ e => .inl e)).trans (Fr.of_grow g70)) fun x hx e => ?_
          omega
        cases hpick : pickN i l U i with
        | none =>
          rw [hpick] at he
          obtain ⟨rfl, rfl⟩ : ear = -1 ∧ other = -1 := by simpa [encP] using he
          refine cT (by decide) ?_
          rw [wrapU' (by omega)]
          refine (onesS_c hl64).mono ?_
          rintro e w90 ⟨rfl, g90⟩
          have hrun := E.run l p (.stop (by rw [← hU]; exact hpick))
          have sp : SlI w90 (.slice (some ⟨G, 0, none⟩) i i) p := Arr.sl (Own.grow hG45 (g70.trans g90)) E.lp
          refine ⟨_, rfl, condD (fun h1 => ⟨_, l, p, ?_, hrun, E.ll, E.lp, sp, (g1.trans g2070).trans g90⟩) fun h1 => ⟨_, l, p, ?_, hrun, E.ll, E.lp, sp, (g1.trans g2070).trans g90⟩⟩
          · rw [if_pos (by omega)]
            rfl
          · rw [if_neg (by omega)]
        | some ij =>
          obtain ⟨a, o⟩ := ij
          rw [hpick] at he
          obtain ⟨rfl, rfl⟩ : ear = (a : Int) ∧ other = (o : Int) := by simpa [encP] using he
          obtain ⟨ha, ho, ht⟩ := pick_some (Nat.le_refl i) hpick
          obtain ⟨b1, b2, b3, b4⟩ := earT_iff.1 ht
          refine cF (decide_eq_false (by omega)) ⟨by omega, _, _, _, rfl, ⟨by omega, by omega⟩, ?_⟩
          have hGX : Addr.add ⟨G, 0, none⟩ (Int.toNat (a : Int) * 1) = ⟨G, a, none⟩ := by rw [Int.toNat_natCast, Nat.mul_one, Addr.add0]
          rw [hGX]
          have hG70 : Arr w70 G i p := Own.grow hG45 g70
          refine ⟨(Own.wr hG70 ha).1, (Own.wr hG70 ha).2, fun w96 hw96 => ?_⟩
          rw [clr_eq (by omega) (by omega)]
          have hc := cnt_clr (n := i) (left := l) (i := a) ⟨ha, b2⟩
          refine ⟨⟨clr l a, U, p.set a (o : Int), rfl, ?_, hG70.put ha hw96, ?_, ?_, hcl.1, hcl.2, by rw [List.length_set]; exact E.lp, fun l2 p2 h2 => E.run l2 p2 (.go (by rw [← hU]; exact hpick) (by rw [← hU]; exact h2))⟩, ?_⟩
          · exact Own.fr (Own.grow hA45 g70) (set_fr hw96) fun x hx e => by
              simp [Value.ownBlock] at hx
              have e : x = G := e
              omega
          · exact ((E.fr.trans (hf45.mono fun x _ e => .inl e)).trans (Fr.of_grow g70)).trans ((set_fr hw96).mono fun x _ e => .inr e)
          · exact VC.nSub_lt E.ll
          · dsimp only
            rw [Int.toNat_natCast, Int.toNat_natCast]
            omega
end Go.Proofs.YtleiddajojgmmaaDoor

/- Contracts: Rest and JoinTree. No condition. -/
namespace Go.Proofs.YtleiddajojgmmaaDoor
open Go Go.RowKit VC
set_option linter.unusedSimpArgs false
set_option linter.unusedVariables false

/-- Atom i has variable x. -/
def hasV (b : List Atm) (i x : Nat) : Bool := ((varsOf b).getD i 0).testBit x
theorem earI_init (b : List Atm) : EarI (fun i x => hasV b i x = true) b.length (2 ^ b.length - 1) (varsOf b) := ⟨by simp [varsOf], fun i _ _ x h => h, fun i k _ _ _ _ _ x hx _ => hx⟩
def restV (l : Nat) : Nat := if pc l = 1 then 0 else l
theorem pc_one : ∀ l, l < 32 → pc l = 1 → ∃ i, i < 5 ∧ l = 2 ^ i := by decide +kernel
theorem pc_pow : ∀ i, i < 5 → pc (2 ^ i) = 1 := by decide +kernel
theorem single_pc {n l : Nat} (hn : n ≤ 5) (hl : l < 2 ^ n) : Single n l ↔ pc l = 1 := by
  have hP : 2 ^ n ≤ 2 ^ 5 := Nat.pow_le_pow_right (by omega) hn
  constructor
  · rintro ⟨i, hi⟩
    have hin := (hi i).2 rfl
    have : l = 2 ^ i := Nat.eq_of_testBit_eq fun j => by
      rw [Nat.testBit_two_pow]
      rcases Nat.lt_or_ge j n with hj | hj
      · by_cases e : i = j
        · subst e
          rw [hin.2]
          simp
        · rw [decide_eq_false e]
          rw [← Bool.not_eq_true]
          exact fun h => e ((hi j).1 ⟨hj, h⟩).symm
      · rw [Nat.testBit_lt_two_pow (Nat.lt_of_lt_of_le hl (Nat.pow_le_pow_right (by omega) hj))]
        rw [decide_eq_false (by have := hin.1; omega)]
    rw [this]
    exact pc_pow i (by have := hin.1; omega)
  · intro h
    obtain ⟨i, hi, rfl⟩ := pc_one l (by omega) h
    refine ⟨i, fun j => ?_⟩
    unfold InS
    rw [Nat.testBit_two_pow, decide_eq_true_eq]
    refine ⟨fun h => h.2.symm, fun h => ⟨?_, h.symm⟩⟩
    subst h
    rcases Nat.lt_or_ge j n with h9 | h9
    · exact h9
    · have := Nat.pow_le_pow_right (n := 2) (by omega) h9
      omega
theorem rest_c {w : World} {hv bv : Value} {h : List Int} {b : List Atm} (sh : SlI w hv h) (sb : SlA w bv b) :
    Calls Tryd.prog 10 #[.agg #[hv, bv]] w fun e w' => (okQ h b = false ∧ e = .returned (.tuple #[.int .i64 0, .int .i64 2]) ∨ okQ h b = true ∧ ∃ l2 p2, e = .returned (.tuple #[.int .i64 (restV l2 : Nat), .int .i64 0]) ∧ EarsR b.length (2 ^ b.length - 1) (varsOf b) (List.replicate b.length (-1)) l2 p2 ∧ l2 < 2 ^ b.length) ∧ Grow w w' := by
  refine f10_calls _ ?_
  refine ⟨_, rfl, fun w1 hw1 => ?_⟩
  have g1 := alloc_grow hw1
  have p0 := boxc hw1 0 hv rfl
  have p1 := boxc hw1 1 bv rfl
  refine ⟨[_, _], rfl, two p0 p1, (valid_c (sh.grow g1) (sb.gr g1)).mono ?_⟩
  rintro e w4 ⟨rfl, g4⟩
  have g04 := g1.trans g4
  refine ⟨_, rfl, condP_i (fun hn => ⟨.inl ⟨by simpa using hn, rfl⟩, g04⟩) fun hk => ?_⟩
  have ok : okQ h b = true := by simpa using hk
  have hbl := okQ_len ok
  have oa : ∀ a ∈ b, okA a = true := fun a ha => by
    simp only [okQ, Bool.and_eq_true, List.all_eq_true] at ok
    exact ok.1.2 a ha
  refine ⟨[_, _], rfl, two (g4.cell p0) (g4.cell p1), (ears_c (sb.gr g04) oa hbl.1 hbl.2.1).mono ?_⟩
  rintro e w8 ⟨pv, l2, p2, rfl, hE, hl, hp, sp, g8⟩
  exact ⟨_, _, rfl, .inr ⟨ok, l2, p2, rfl, hE, hl⟩, g04.trans g8⟩
end Go.Proofs.YtleiddajojgmmaaDoor

/- Elimination under other sets, under other names, of fewer and of more atoms. Of no program. No condition. -/
namespace Go.Proofs.YtleiddajojgmmaaDoor
set_option linter.unusedSimpArgs false
set_option linter.unusedVariables false

/-! ## Elimination under other sets, other names, fewer atoms -/
section
variable {vs vs' : Nat → Nat → Prop}
theorem Elim.ears {S : Nat → Prop} {n : Nat} (h : Elim vs S n) : (∀ S' i k, (∀ j, S' j → S j) → Ear vs S' i k → Ear vs' S' i k) → Elim vs' S n := by
  induction h with
  | one h1 => exact fun _ => .one h1
  | step h1 h2 ih => exact fun hE => .step (hE _ _ _ (fun _ h => h) h1) (ih fun S' i k hs => hE S' i k fun j hj => (hs j hj).1)
theorem Elim.pos {S : Nat → Prop} {n : Nat} (h : Elim vs S n) : ∃ m, n = m + 1 := by
  cases h with
  | one _ => exact ⟨0, rfl⟩
  | step _ _ => exact ⟨_, rfl⟩
theorem Elim.drop {S : Nat → Prop} {n : Nat} (h : Elim vs S n) {i k : Nat} (hi : S i) (hk : S k) (hne : i ≠ k) (hs : ∀ x, vs i x → vs k x) : ∃ m, Elim vs (Wo S i) m := by
  have he : Ear vs S i k := ⟨hi, hk, hne, fun j _ _ x hx _ => hs x hx⟩
  cases h with
  | one h1 => exact absurd ((h1 i).1 hi) fun e => hne (e.trans ((h1 k).1 hk).symm)
  | step h1 h2 =>
    obtain ⟨m, rfl⟩ := h2.pos
    exact ⟨_, Elim.exch (.step h1 h2) he⟩
/-- Atoms whose sets lie in those of atoms that stay. -/
theorem Elim.keep {S T : Nat → Prop} {N n : Nat} (h : Elim vs S n) (hN : ∀ j, S j → j < N) (hT : ∀ j, T j → S j) (hsub : ∀ i, S i → ¬ T i → ∃ k, T k ∧ ∀ x, vs i x → vs k x) : ∃ m, Elim vs T m := by
  have go : ∀ t, ∃ m, Elim vs (fun j => S j ∧ (T j ∨ t ≤ j)) m := by
    intro t
    induction t with
    | zero => exact ⟨n, h.congr fun j => ⟨fun hj => ⟨hj, .inr (Nat.zero_le _)⟩, fun hj => hj.1⟩⟩
    | succ t ih =>
      obtain ⟨m, hm⟩ := ih
      by_cases hc : S t ∧ ¬ T t
      · obtain ⟨k, hk, hx⟩ := hsub t hc.1 hc.2
        obtain ⟨m2, hm2⟩ := hm.drop (i := t) (k := k) ⟨hc.1, .inr (Nat.le_refl _)⟩ ⟨hT k hk, .inl hk⟩ (fun e => hc.2 (e ▸ hk)) hx
        refine ⟨m2, hm2.congr fun j => ?_⟩
        unfold Wo
        constructor
        · rintro ⟨⟨h1, h2⟩, h3⟩
          exact ⟨h1, h2.imp id fun h => by omega⟩
        · rintro ⟨h1, h2⟩
          refine ⟨⟨h1, h2.imp id fun h => by omega⟩, ?_⟩
          rintro rfl
          rcases h2 with h2 | h2
          · exact hc.2 h2
          · omega
      · refine ⟨m, hm.congr fun j => ?_⟩
        constructor
        · rintro ⟨h1, h2⟩
          refine ⟨h1, ?_⟩
          rcases h2 with h2 | h2
          · exact .inl h2
          · by_cases e : j = t
            · subst e
              exact .inl (Classical.byContradiction fun h => hc ⟨h1, h⟩)
            · exact .inr (by omega)
        · rintro ⟨h1, h2⟩
          exact ⟨h1, h2.imp id fun h => by omega⟩
  obtain ⟨m, hm⟩ := go N
  refine ⟨m, hm.congr fun j => ?_⟩
  constructor
  · rintro ⟨h1, h2⟩
    rcases h2 with h2 | h2
    · exact h2
    · have := hN j h1
      omega
  · exact fun h => ⟨hT j h, .inl h⟩
end
section
variable {vs : Nat → Nat → Prop}
theorem Elim.add {S : Nat → Prop} {n : Nat} {i k : Nat} (hi : S i) (hk : S k) (hne : i ≠ k) (hs : ∀ x, vs i x → vs k x) (h : Elim vs (Wo S i) n) : Elim vs S (n + 1) := .step ⟨hi, hk, hne, fun j _ _ x hx _ => hs x hx⟩ h
/-- Atoms whose sets lie in those of atoms that are there already. -/
theorem Elim.fill {S T : Nat → Prop} {N n : Nat} (h : Elim vs T n) (hN : ∀ j, S j → j < N) (hT : ∀ j, T j → S j) (hsub : ∀ i, S i → ¬ T i → ∃ k, T k ∧ ∀ x, vs i x → vs k x) : ∃ m, Elim vs S m := by
  have go : ∀ t, ∃ m, Elim vs (fun j => S j ∧ (T j ∨ j < t)) m := by
    intro t
    induction t with
    | zero => exact ⟨n, h.congr fun j => ⟨fun hj => ⟨hT j hj, .inl hj⟩, fun hj => hj.2.elim id fun h => by omega⟩⟩
    | succ t ih =>
      obtain ⟨m, hm⟩ := ih
      by_cases hc : S t ∧ ¬ T t
      · obtain ⟨k, hk, hx⟩ := hsub t hc.1 hc.2
        refine ⟨m + 1, Elim.add (i := t) (k := k) ⟨hc.1, .inr (Nat.lt_succ_self t)⟩ ⟨hT k hk, .inl hk⟩ (fun e => hc.2 (e ▸ hk)) hx (hm.congr fun j => ?_)⟩
        unfold Wo
        constructor
        · rintro ⟨h1, h2⟩
          refine ⟨⟨h1, h2.imp id fun h => by omega⟩, ?_⟩
          rintro rfl
          rcases h2 with h2 | h2
          · exact hc.2 h2
          · omega
        · rintro ⟨⟨h1, h2⟩, h3⟩
          exact ⟨h1, h2.imp id fun h => by omega⟩
      · refine ⟨m, hm.congr fun j => ?_⟩
        constructor
        · rintro ⟨h1, h2⟩
          exact ⟨h1, h2.imp id fun h => by omega⟩
        · rintro ⟨h1, h2⟩
          refine ⟨h1, ?_⟩
          rcases h2 with h2 | h2
          · exact .inl h2
          · by_cases e : j = t
            · subst e
              exact .inl (Classical.byContradiction fun h => hc ⟨h1, h⟩)
            · exact .inr (by omega)
  obtain ⟨m, hm⟩ := go N
  exact ⟨m, hm.congr fun j => ⟨fun h => h.1, fun h => ⟨h, .inr (hN j h)⟩⟩⟩
end
end Go.Proofs.YtleiddajojgmmaaDoor

/- Sets of nodes can be eliminated exactly if their graph is chordal and every clique of it lies within one of them. Of no program. No condition. -/
namespace Go.Proofs.YtleiddajojgmmaaDoor
open VC
set_option linter.unusedSimpArgs false
set_option linter.unusedVariables false

/-- Sets P i, i below n, cover the nodes and the edges of a graph, and no more. -/
structure CovP (N : List Nat) (P : Nat → Nat → Prop) (n : Nat) : Prop where
  lt : ∀ i k, i < n → P i k → k < N.length
  edge : ∀ k l, E N k l ↔ k ≠ l ∧ ∃ i, i < n ∧ P i k ∧ P i l
  all : ∀ k, k < N.length → ∃ i, i < n ∧ P i k
section
variable {N : List Nat} {P : Nat → Nat → Prop} {n : Nat}
/-! ## What can be eliminated has no hole, and each clique in one set -/
theorem hole_two (hN : VN N) {l : List Int} (h : HoleP N l) {i : Nat} (hi : i < l.length) : ∃ j k, j < l.length ∧ k < l.length ∧ E N (gi l i).toNat (gi l j).toNat ∧ E N (gi l i).toNat (gi l k).toNat ∧ (gi l j).toNat ≠ (gi l k).toNat ∧ ¬ E N (gi l j).toNat (gi l k).toNat := by
  have hin : ∀ j, j < l.length → (orAll l).testBit (gi l j).toNat = true := fun j hj => orAll_bit.2 ⟨l[j], List.getElem_mem hj, by rw [gi_get hj]⟩
  refine Classical.byContradiction fun hn => hole_core hN h hin hi fun a ha b hb hne => ?_
  rw [Nat.testBit_and, Bool.and_eq_true] at ha hb
  obtain ⟨x, hx, rfl⟩ := orAll_bit.1 ha.2
  obtain ⟨y, hy, rfl⟩ := orAll_bit.1 hb.2
  obtain ⟨j, hj, rfl⟩ := List.getElem_of_mem hx
  obtain ⟨k, hk, rfl⟩ := List.getElem_of_mem hy
  rw [gi_get hj, gi_get hk] at *
  refine Classical.byContradiction fun he => hn ⟨j, k, hj, hk, ha.1, hb.1, fun e => hne e.symm, ?_⟩
  exact he
theorem elim_hole (hN : VN N) (hP : ∀ i k l, i < n → P i k → P i l → k ≠ l → E N k l) {l : List Int} (h : HoleP N l) {S : Nat → Prop} {m : Nat} (hE : Elim P S m) : (∀ i, S i → i < n) → ¬ ∀ i j, i < l.length → j < l.length → E N (gi l i).toNat (gi l j).toNat → ∃ a, S a ∧ P a (gi l i).toNat ∧ P a (gi l j).toNat := by
  have h4 := h.four
  induction hE with
  | @one S a ha =>
    intro hS hc
    obtain ⟨j, k, hj, hk, e1, e2, hne, hno⟩ := hole_two hN h (i := 0) (by omega)
    obtain ⟨a1, s1, -, p1⟩ := hc 0 j (by omega) hj e1
    obtain ⟨a2, s2, -, p2⟩ := hc 0 k (by omega) hk e2
    rw [(ha a1).1 s1] at p1
    rw [(ha a2).1 s2] at p2
    exact hno (hP a _ _ (hS a ((ha a).2 rfl)) p1 p2 hne)
  | @step S e w m he hr ih =>
    intro hS hc
    obtain ⟨b1, b2, b3, b4⟩ := he
    by_cases hx : ∃ i, i < l.length ∧ P e (gi l i).toNat ∧ ∀ a, S a → a ≠ e → ¬ P a (gi l i).toNat
    · obtain ⟨i, hi, hpe, hex⟩ := hx
      obtain ⟨j, k, hj, hk, e1, e2, hne, hno⟩ := hole_two hN h hi
      obtain ⟨a1, s1, q1, p1⟩ := hc i j hi hj e1
      obtain ⟨a2, s2, q2, p2⟩ := hc i k hi hk e2
      have c1 : a1 = e := Classical.byContradiction fun h => hex a1 s1 h q1
      have c2 : a2 = e := Classical.byContradiction fun h => hex a2 s2 h q2
      subst c1
      subst c2
      exact hno (hP _ _ _ (hS _ b1) p1 p2 hne)
    · have hx : ∀ i, i < l.length → P e (gi l i).toNat → P w (gi l i).toNat := fun i hi hpe => by
        refine Classical.byContradiction fun hw => hx ⟨i, hi, hpe, fun a sa hne hpa => hw (b4 a sa hne _ hpe hpa)⟩
      refine ih (fun i hi => hS i hi.1) fun i j hi hj hij => ?_
      obtain ⟨a, sa, p1, p2⟩ := hc i j hi hj hij
      by_cases hae : a = e
      · subst hae
        exact ⟨w, ⟨b2, fun h => b3 h.symm⟩, hx i hi p1, hx j hj p2⟩
      · exact ⟨a, ⟨sa, hae⟩, p1, p2⟩
theorem elim_conf {S : Nat → Prop} {m : Nat} (hE : Elim P S m) : ∀ K : Nat → Prop, (∀ u v, K u → K v → ∃ a, S a ∧ P a u ∧ P a v) → ∃ a, S a ∧ ∀ u, K u → P a u := by
  induction hE with
  | @one S a ha =>
    intro K hK
    refine ⟨a, (ha a).2 rfl, fun u hu => ?_⟩
    obtain ⟨a1, s1, p1, -⟩ := hK u u hu hu
    rwa [(ha a1).1 s1] at p1
  | @step S e w m he hr ih =>
    intro K hK
    obtain ⟨b1, b2, b3, b4⟩ := he
    by_cases hx : ∃ u, K u ∧ P e u ∧ ∀ a, S a → a ≠ e → ¬ P a u
    · obtain ⟨u, hu, hpe, hex⟩ := hx
      refine ⟨e, b1, fun v hv => ?_⟩
      obtain ⟨a, sa, p1, p2⟩ := hK u v hu hv
      have c1 : a = e := Classical.byContradiction fun h => hex a sa h p1
      rwa [c1] at p2
    · have hx : ∀ u, K u → P e u → P w u := fun u hu hpe => by
        refine Classical.byContradiction fun hw => hx ⟨u, hu, hpe, fun a sa hne hpa => hw (b4 a sa hne _ hpe hpa)⟩
      obtain ⟨a, sa, h⟩ := ih K fun u v hu hv => by
        obtain ⟨a, sa, p1, p2⟩ := hK u v hu hv
        by_cases hae : a = e
        · subst hae
          exact ⟨w, ⟨b2, fun h => b3 h.symm⟩, hx u hu p1, hx v hv p2⟩
        · exact ⟨a, ⟨sa, hae⟩, p1, p2⟩
      exact ⟨a, sa.1, h⟩
theorem CovP.two (h : CovP N P n) {u v : Nat} (hu : u < N.length) (he : u ≠ v → E N u v) : ∃ a, a < n ∧ P a u ∧ P a v := by
  by_cases e : u = v
  · subst e
    obtain ⟨a, ha, hp⟩ := h.all u hu
    exact ⟨a, ha, hp, hp⟩
  · exact ((h.edge u v).1 (he e)).2
theorem elim_ord (hN : VN N) (h : CovP N P n) {m : Nat} (hE : Elim P (fun i => i < n) m) : (ordG N).isSome = true := by
  cases ho : ordG N with
  | some r => rfl
  | none =>
    exfalso
    have hf := ord_none hN ho
    obtain ⟨r, hr⟩ := Option.isSome_iff_exists.1 hf
    have hh := firstH_hole hr
    refine elim_hole hN (fun i k l hi h1 h2 hne => (h.edge k l).2 ⟨hne, i, hi, h1, h2⟩) hh hE (fun i hi => hi) fun i j hi hj he => ?_
    exact ((h.edge _ _).1 he).2
theorem elim_clq (h : CovP N P n) {m : Nat} (hE : Elim P (fun i => i < n) m) {K : Nat} (hK : K < 2 ^ N.length) (hq : Clq N K) : ∃ i, i < n ∧ ∀ k, K.testBit k = true → P i k :=
  elim_conf hE (fun k => K.testBit k = true) fun u v hu hv => h.two (bit_lt hK hu) fun hne => hq u hu v hv fun e => hne e.symm
/-! ## Back -/
theorem clq_max (hN : VN N) : ∀ (d K : Nat), 12 - pc K ≤ d → K < 2 ^ N.length → Clq N K → K ≠ 0 → ∃ s ∈ mcl N, ∀ k, K.testBit k = true → s.testBit k = true := by
  intro d
  induction d with
  | zero =>
    intro K hd hK hq h0
    have h12 := pc_le K
    refine ⟨K, mem_mcl.2 ⟨hK, Nat.pos_of_ne_zero h0, ?_⟩, fun k h => h⟩
    rw [maxq_ref hN hK, Bool.and_eq_true, List.all_eq_true]
    refine ⟨(cliq_iff (Nat.lt_of_lt_of_le hK hN.pow)).2 hq, fun i hi => ?_⟩
    have hi12 : i < 12 := Nat.lt_of_lt_of_le (List.mem_range.1 hi) hN.le
    have : K.testBit i = true := Classical.byContradiction fun hb => by
      have hb : K.testBit i = false := by simpa using hb
      have h5 := pc_lt (s := K) (t := 4095) (fun j hj _ => by
        have e : (4095 : Nat) = 2 ^ 12 - 1 := rfl
        rw [e, Nat.testBit_two_pow_sub_one]
        exact decide_eq_true hj) hi12 hb (by
        have e : (4095 : Nat) = 2 ^ 12 - 1 := rfl
        rw [e, Nat.testBit_two_pow_sub_one]
        exact decide_eq_true hi12)
      have h6 := pc_le 4095
      omega
    rw [this]; rfl
  | succ d ih =>
    intro K hd hK hq h0
    have h4096 := Nat.lt_of_lt_of_le hK hN.pow
    by_cases hm : maxq N K = true
    · exact ⟨K, mem_mcl.2 ⟨hK, Nat.pos_of_ne_zero h0, hm⟩, fun k h => h⟩
    · have hm : maxq N K = false := by simpa using hm
      rw [maxq_ref hN hK, (cliq_iff h4096).2 hq, Bool.true_and, List.all_eq_false] at hm
      obtain ⟨i, hi, hb⟩ := hm
      have hiN := List.mem_range.1 hi
      have hb : K.testBit i = false ∧ cliq N (K ||| 2 ^ i) = true := by
        cases h1 : K.testBit i <;> cases h2 : cliq N (K ||| 2 ^ i) <;> simp [h1, h2] at hb ⊢
      have hlt : K ||| 2 ^ i < 2 ^ N.length := Nat.or_lt_two_pow hK (Nat.pow_lt_pow_right (by omega) hiN)
      have hsub : ∀ k, K.testBit k = true → (K ||| 2 ^ i).testBit k = true := fun k hk => by rw [Nat.testBit_or, hk]; rfl
      have hlt2 := Nat.lt_of_lt_of_le hlt hN.pow
      have hg := pc_grow (s := K) hlt2 hsub fun e => by
        have : (K ||| 2 ^ i).testBit i = true := by rw [Nat.testBit_or, Nat.testBit_two_pow]; simp
        rw [e, hb.1] at this
        cases this
      obtain ⟨s, hs, h⟩ := ih (K ||| 2 ^ i) (by omega) hlt ((cliq_iff hlt2).1 hb.2) fun e => by
        have h3 : (K ||| 2 ^ i).testBit i = true := by rw [Nat.testBit_or, Nat.testBit_two_pow]; simp
        rw [e, Nat.zero_testBit] at h3
        cases h3
      exact ⟨s, hs, fun k hk => h k (hsub k hk)⟩
theorem conf_elim (hN : VN N) (h : CovP N P n) (h1 : 1 ≤ n) : ∀ (l : List Int) (left : Nat), left < 2 ^ N.length → elN N left l = true → (∀ K, K < 2 ^ N.length → Clq N K → (∀ k, K.testBit k = true → left.testBit k = true) → ∃ i, i < n ∧ ∀ k, K.testBit k = true → P i k) →
    ∃ m, Elim (fun i k => P i k ∧ left.testBit k = true) (fun i => i < n) m
  | [], left, hl, he, hc => by
    have h0 : left = 0 := by simpa [elN] using he
    subst h0
    refine Elim.fill (T := fun i => i = 0) (N := n) (.one (i := 0) fun j => Iff.rfl) (fun j hj => hj) (fun j hj => by omega) fun i hi hn => ⟨0, rfl, fun x hx => ?_⟩
    have := hx.2
    simp at this
  | x :: r, left, hl, he, hc => by
    simp only [elN, Bool.and_eq_true, decide_eq_true_eq] at he
    obtain ⟨⟨⟨⟨x0, x1⟩, hb⟩, hq⟩, hr⟩ := he
    obtain ⟨z, hz⟩ : ∃ z, z = x.toNat := ⟨_, rfl⟩
    rw [← hz] at hb hq hr
    have hzN : z < N.length := by omega
    rw [and_self_sub hN] at hq
    obtain ⟨k1, k2⟩ := eclq_clq hN hzN hq
    obtain ⟨i0, hi0, hK⟩ := hc _ k2 k1 fun k hk => by
      rcases eclq_bit.1 hk with rfl | hk
      · exact hb
      · exact hk.2
    have hl' : nSub left (2 ^ z) < 2 ^ N.length := nSub_lt hl
    have bit' : ∀ k, (nSub left (2 ^ z)).testBit k = true ↔ left.testBit k = true ∧ k ≠ z := fun k => by
      rw [nSub_bit, Nat.testBit_two_pow, Bool.and_eq_true, Bool.not_eq_true', decide_eq_false_iff_not]
      exact ⟨fun h => ⟨h.1, fun e => h.2 e.symm⟩, fun h => ⟨h.1, fun e => h.2 e.symm⟩⟩
    obtain ⟨m1, hm1⟩ := conf_elim hN h h1 r _ hl' hr fun K hK1 hK2 hK3 => hc K hK1 hK2 fun k hk => ((bit' k).1 (hK3 k hk)).1
    have hin : ∀ i, i < n → P i z → ∀ k, P i k → left.testBit k = true → P i0 k := fun i hi hpz k hpk hk => by
      by_cases e : k = z
      · subst e
        exact hK _ (eclq_bit.2 (.inl rfl))
      · exact hK _ (eclq_bit.2 (.inr ⟨(h.edge z k).2 ⟨fun e2 => e e2.symm, i, hi, hpz, hpk⟩, hk⟩))
    obtain ⟨m2, hm2⟩ := hm1.keep (T := fun j => j < n ∧ (j = i0 ∨ ¬ P j z)) (N := n) (fun j hj => hj) (fun j hj => hj.1) fun i hi hn => by
      refine ⟨i0, ⟨hi0, .inl rfl⟩, fun k hk => ⟨hin i hi ?_ k hk.1 ((bit' k).1 hk.2).1, hk.2⟩⟩
      exact Classical.byContradiction fun hp => hn ⟨hi, .inr hp⟩
    have hm3 : Elim (fun i k => P i k ∧ left.testBit k = true) (fun j => j < n ∧ (j = i0 ∨ ¬ P j z)) m2 := hm2.ears fun S' i k hs hE => by
      obtain ⟨b1, b2, b3, b4⟩ := hE
      refine ⟨b1, b2, b3, fun j hj hne y hy hy2 => ?_⟩
      have hyz : y ≠ z := by
        rintro rfl
        have c1 := (hs i b1).2.elim id fun hp => absurd hy.1 hp
        have c2 := (hs j hj).2.elim id fun hp => absurd hy2.1 hp
        exact hne (c2.trans c1.symm)
      have := b4 j hj hne y ⟨hy.1, (bit' y).2 ⟨hy.2, hyz⟩⟩ ⟨hy2.1, (bit' y).2 ⟨hy2.2, hyz⟩⟩
      exact ⟨this.1, hy.2⟩
    refine hm3.fill (N := n) (fun j hj => hj) (fun j hj => hj.1) fun i hi hn => ⟨i0, ⟨hi0, .inl rfl⟩, fun k hk => ⟨hin i hi ?_ k hk.1 hk.2, hk.2⟩⟩
    exact Classical.byContradiction fun hp => hn ⟨hi, .inr hp⟩
/-- Elimination, and what it is of the graph. -/
theorem elim_iff (hN : VN N) (h : CovP N P n) (h1 : 1 ≤ n) : (∃ m, Elim P (fun i => i < n) m) ↔ (ordG N).isSome = true ∧ ∀ s ∈ mcl N, ∃ i, i < n ∧ ∀ k, s.testBit k = true → P i k := by
  constructor
  · rintro ⟨m, hm⟩
    refine ⟨elim_ord hN h hm, fun s hs => ?_⟩
    obtain ⟨a, b, c⟩ := mem_mcl.1 hs
    have hq : cliq N s = true := by
      unfold maxq at c
      rw [Bool.and_eq_true] at c
      exact c.1
    exact elim_clq h hm a ((cliq_iff (Nat.lt_of_lt_of_le a hN.pow)).1 hq)
  · rintro ⟨ho, hc⟩
    obtain ⟨r, hr⟩ := Option.isSome_iff_exists.1 ho
    obtain ⟨m, hm⟩ := conf_elim hN h h1 (ofN r) (al N) (al_lt N) (ordG_el hN hr) fun K hK hq _ => by
      by_cases h0 : K = 0
      · subst h0
        exact ⟨0, h1, fun k hk => by simp at hk⟩
      · obtain ⟨s, hs, hsub⟩ := clq_max hN _ K (Nat.le_refl _) hK hq h0
        obtain ⟨i, hi, h2⟩ := hc s hs
        exact ⟨i, hi, fun k hk => h2 k (hsub k hk)⟩
    refine ⟨m, hm.ears fun S' i k hs hE => ?_⟩
    obtain ⟨b1, b2, b3, b4⟩ := hE
    refine ⟨b1, b2, b3, fun j hj hne y hy hy2 => (b4 j hj hne y ⟨hy, ?_⟩ ⟨hy2, ?_⟩).1⟩
    all_goals
      rw [al_bit]
      exact decide_eq_true (h.lt _ _ (hs _ b1) hy)
end
end Go.Proofs.YtleiddajojgmmaaDoor
