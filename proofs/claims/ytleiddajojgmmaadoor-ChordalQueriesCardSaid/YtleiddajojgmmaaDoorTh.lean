/- Contract: the deletion of ears, by the program. No condition. -/
import Derived.Test.YtleiddajojgmmaaDoorTb
import Derived.Test.YtleiddajojgmmaaDoorMx
import Derived.Test.YtleiddajojgmmaaDoorTd
namespace Go.Proofs.YtleiddajojgmmaaDoor
open Go Go.RowKit VC
set_option linter.unusedSimpArgs false
set_option linter.unusedVariables false

def ocX1 (x : Int) : Int := IntKind.wrap .u64 ((iAnd .u64 (iShr .u64 x 1) 6148914691236517205) + (iAnd .u64 x 6148914691236517205))
def ocX2 (x : Int) : Int := IntKind.wrap .u64 ((iAnd .u64 (iShr .u64 x 2) 3689348814741910323) + (iAnd .u64 x 3689348814741910323))
def ocX3 (x : Int) : Int := iAnd .u64 (IntKind.wrap .u64 ((iShr .u64 x 4) + x)) 1085102592571150095
def ocX4 (x : Int) : Int := IntKind.wrap .u64 (x + (iShr .u64 x 8))
def ocX5 (x : Int) : Int := IntKind.wrap .u64 (x + (iShr .u64 x 16))
def ocX6 (x : Int) : Int := IntKind.wrap .u64 (x + (iShr .u64 x 32))
def ocXX (x : Int) : Int := iAnd .i64 (IntKind.wrap .i64 (ocX6 (ocX5 (ocX4 (ocX3 (ocX2 (ocX1 x))))))) 127
theorem ocXAll : ∀ s, s < 64 → (ocXX ((s : Nat) : Int) == ((pc s : Nat) : Int)) = true := by decide +kernel
theorem ones64S_c {s : Nat} (h : s < 64) {w : World} : Calls Tryd.prog 67 #[.int .u64 (s : Int)] w (Ret w (.int .i64 (pc s : Int))) := by
  refine f67_calls _ ?_
  have hk := ocXAll s h
  refine ⟨by omega, by omega, by omega, by omega, by omega, by omega, ?_, Grow.refl w⟩
  have : ocXX (s : Int) = ((pc s : Nat) : Int) := by simpa using hk
  rw [← this]
  rfl
theorem onesS_c {s : Nat} (h : s < 64) {w : World} : Calls Tryd.prog 45 #[.int .u64 (s : Int)] w (Ret w (.int .i64 (pc s : Int))) := by
  refine f45_calls _ ?_
  refine (ones64S_c h).mono ?_
  rintro e w' ⟨rfl, hg⟩
  exact ⟨_, rfl, rfl, hg⟩
theorem ownSelf {w : World} {B : Nat} {e : TypeId} {sz g n c : Nat} {cs : List Value} (h : Own w B e sz (.slice (some ⟨g, 0, none⟩) n c) n cs) : Own w g e sz (.slice (some ⟨g, 0, none⟩) n c) n cs := by
  refine ⟨h.1, .inr ?_⟩
  rcases h.2 with ⟨h1, _⟩ | ⟨g', cap', cur, he, hb, rest⟩
  · cases h1
  · simp only [Value.slice.injEq, Option.some.injEq, Addr.mk.injEq, and_true, true_and] at he
    obtain ⟨rfl, rfl⟩ := he
    exact ⟨_, _, cur, rfl, Nat.le_refl _, rest⟩
def intN (V : List Nat) : List Int := V.map fun (x : Nat) => (x : Int)
theorem intN_len (V : List Nat) : (intN V).length = V.length := by simp [intN]
/-- An array of ints in the block A. -/
abbrev Arr (w : World) (A n : Nat) (xs : List Int) : Prop := Own w A 3 1 (.slice (some ⟨A, 0, none⟩) n n) n (xs.map VC.encI)
theorem Arr.put {w w' : World} {A n i : Nat} {xs : List Int} {z : Int} (h : Arr w A n xs) (hi : i < n) (hw : w' = w.setCell ⟨A, i, none⟩ (.int .i64 z)) : Arr w' A n (xs.set i z) := by
  have h9 := Own.set h hi hw
  have e : (xs.map VC.encI).set i (Value.int .i64 z) = (xs.set i z).map VC.encI := by
    rw [show Value.int .i64 z = VC.encI z from rfl, ← List.map_set]
  rwa [e] at h9
theorem Arr.sl {w : World} {A n : Nat} {xs : List Int} (h : Arr w A n xs) (hl : xs.length = n) : SlI w (.slice (some ⟨A, 0, none⟩) n n) xs := Own.slI h
def encP : Option (Nat × Nat) → Int × Int
  | none => (-1, -1)
  | some (i, k) => ((i : Int), (k : Int))
theorem intN_get {V : List Nat} {i : Nat} (hi : i < V.length) : (intN V)[i]'(by rw [intN_len]; exact hi) = ((V.getD i 0 : Nat) : Int) := by
  simp [intN, List.getD, hi]
theorem intN_set (V : List Nat) (i z : Nat) : (intN V).set i (z : Int) = intN (V.set i z) := by
  simp [intN, List.map_set]
theorem othG_lt {left : Nat} {V : List Nat} {i : Nat} (hV : ∀ k, V.getD k 0 < 256) : ∀ j, othG left V i (List.range j) < 256 := fun j => by
  refine Nat.lt_pow_two_of_testBit (n := 8) _ fun x hx => ?_
  cases h : (othG left V i (List.range j)).testBit x with
  | false => rfl
  | true =>
    unfold othG at h
    rw [oth_go] at h
    rcases h with h | ⟨k, -, -, -, h⟩
    · simp at h
    · rw [Nat.testBit_lt_two_pow (Nat.lt_of_lt_of_le (hV k) (Nat.pow_le_pow_right (by omega) hx : 2 ^ 8 ≤ 2 ^ x))] at h
      cases h
theorem othG_succ (left : Nat) (V : List Nat) (i j : Nat) : othG left V i (List.range (j + 1)) = if j ≠ i ∧ left.testBit j = true then othG left V i (List.range j) ||| V.getD j 0 else othG left V i (List.range j) := by
  unfold othG
  rw [List.range_succ, List.foldl_append]
  rfl
theorem cutK_lt {n left : Nat} {V : List Nat} (hl : V.length = n) (hV : ∀ k, V.getD k 0 < 256) : ∀ k, k ≤ n → (cutK n left V k).length = n ∧ ∀ j, (cutK n left V k).getD j 0 < 256
  | 0, _ => ⟨hl, hV⟩
  | k + 1, hk => by
    obtain ⟨h1, h2⟩ := cutK_lt (left := left) hl hV k (by omega)
    rw [cutK_succ]
    refine ⟨by unfold cutN; rw [List.length_set]; exact h1, fun j => ?_⟩
    rw [cut_get h1 (by omega)]
    split
    · exact Nat.lt_of_le_of_lt Nat.and_le_left (h2 k)
    · exact h2 j
/-- Between the rounds. -/
structure EarW (w20 : World) (A G n : Nat) (V0 : List Nat) (w' : World) (left : Int) (l : Nat) (V : List Nat) (p : List Int) : Prop where
  le : left = (l : Int)
  arr : Arr w' A n (intN V)
  par : Arr w' G n p
  fr : Fr (fun i => i = A ∨ i = G) w20 w'
  ll : l < 2 ^ n
  lV : V.length = n
  bV : ∀ k, V.getD k 0 < 256
  lp : p.length = n
  run : ∀ l2 p2, EarsR n l V p l2 p2 → EarsR n (2 ^ n - 1) V0 (List.replicate n (-1)) l2 p2
/-- The rounds of the deletion. -/
theorem clr_eq {l i : Nat} (hi : i < 63) (hl : l < 9223372036854775808) : iAndNot .i64 (l : Int) (iShl .i64 1 (i : Int)) = ((clr l i : Nat) : Int) := by
  have : 2 ^ i < 2 ^ 63 := Nat.pow_lt_pow_right (by omega) hi
  rw [iShl_one hi, iAndNot_nat hl (by omega)]
  rfl
theorem andNot_zero {a b : Nat} (ha : a < 256) (hb : b < 256) : (iAndNot .i64 (a : Int) (b : Int) = 0) ↔ a &&& b = a := by
  rw [iAndNot_nat (by omega) (by omega)]
  constructor
  · intro h
    have h : nSub a b = 0 := by omega
    refine sub_bits.2 fun x hx => ?_
    have h2 := nSub_bit a b x
    rw [h, Nat.zero_testBit, hx] at h2
    simpa using h2.symm
  · intro h
    have : nSub a b = 0 := Nat.eq_of_testBit_eq fun x => by
      rw [nSub_bit, Nat.zero_testBit]
      cases hx : a.testBit x with
      | false => rfl
      | true => rw [sub_bits.1 h x hx]; rfl
    rw [this]
    rfl
end Go.Proofs.YtleiddajojgmmaaDoor

/- Contract: the deletion of ears, by the program (ears). No condition. -/
namespace Go.Proofs.YtleiddajojgmmaaDoor
open Go Go.RowKit VC
set_option linter.unusedSimpArgs false
set_option linter.unusedVariables false

def varsOf (b : List Atm) : List Nat := b.map fun a => varsL a.2
theorem bit_oneT {s i : Nat} (h : i < 63) : (iAnd .i64 (iShr .i64 (s : Int) (i : Int)) 1 = 1) ↔ s.testBit i = true := by
  rw [iBit _ (by omega), ibit_nat]
  cases s.testBit i <;> simp
theorem ears_c {w : World} {hv bv : Value} {b : List Atm} (sb : SlA w bv b) (ob : ∀ a ∈ b, okA a = true) (h1 : 1 ≤ b.length) (h5 : b.length ≤ 5) :
    Calls Tryd.prog 26 #[.agg #[hv, bv]] w fun e w' => ∃ pv l2 p2, e = .returned (.tuple #[.int .i64 ((if pc l2 = 1 then 0 else l2 : Nat) : Int), pv]) ∧ EarsR b.length (2 ^ b.length - 1) (varsOf b) (List.replicate b.length (-1)) l2 p2 ∧ l2 < 2 ^ b.length ∧ p2.length = b.length ∧ SlI w' pv p2 ∧ Grow w w' := by
  refine f26_calls _ ?_
  refine ⟨_, rfl, fun w1 hw1 => ?_⟩
  have g1 := alloc_grow hw1
  have s1 := alloc_size hw1
  have p1 := boxc hw1 1 bv rfl
  have bT : ∀ a ∈ b, ∀ x ∈ a.2, -9 ≤ x ∧ x ≤ 7 := fun a ha => (okA_iff.1 (ob a ha)).2.2.2.2
  refine ⟨_, p1, SlX.ln (sb.gr g1) ?_⟩
  obtain ⟨n, hn⟩ : ∃ n, n = b.length := ⟨_, rfl⟩
  rw [← hn] at h1 h5 ⊢
  refine ⟨⟨by omega, by omega, by omega, by omega⟩, fun w7 hw7 w8 hw8 => ?_⟩
  rw [Int.toNat_natCast] at hw7 ⊢
  have g7 := alloc_grow hw7
  have s7 := alloc_size hw7
  have g8 := alloc_grow hw8
  have s8 := alloc_size hw8
  obtain ⟨A, hA⟩ : ∃ A, A = w1.heap.size := ⟨_, rfl⟩
  have hmade : Arr w7 A n (List.replicate n 0) := by
    have := Own.made hw7 (n := n) (by omega) (Nat.le_refl _) (by omega)
    rw [hA]
    have e : (List.replicate n (0 : Int)).map VC.encI = List.replicate n (Value.int .i64 0) := by simp [VC.encI]
    show Own w7 w1.heap.size 3 1 (.slice (some ⟨w1.heap.size, 0, none⟩) n n) n ((List.replicate n (0 : Int)).map VC.encI)
    rw [e]
    exact this
  have hm1 := slI_lit (xs := [-1]) hw8 rfl (by simp)
  refine (repeat_c (n := n) (z := -1) hm1 h1 (by omega)).mono ?_
  rintro e w9 ⟨G, rfl, hG, g9⟩
  have hGl := Own.lt hG (k := G) rfl
  have hAG : A ≠ G := by omega
  have hG9 : Arr w9 G n (List.replicate n (-1)) := by
    have h9 : Own w9 w8.heap.size 3 1 (.slice (some ⟨G, 0, none⟩) n n) n ((List.replicate n (-1 : Int)).map VC.encI) := by
      have := hG
      unfold OwnI at this
      rwa [List.length_replicate] at this
    exact ownSelf h9
  rw [← hA]
  have g79 := g8.trans g9
  have g19 := g7.trans g79
  have g09 := g1.trans g19
  refine ⟨_, rfl, _, g19.cell p1, SlX.ln (sb.gr g09) ?_⟩
  rw [← hn]
  -- the sets of variables
  refine ⟨fun t w' => ∃ (k : Nat) (c : List Int), t = k ∧ k ≤ n ∧ c.length = n ∧ (∀ i, i < k → c.getD i 0 = (((varsOf b).getD i 0 : Nat) : Int)) ∧ Arr w' A n c ∧ Fr (fun i => i = A) w9 w', fun t _ => n - t.toNat, ⟨0, _, rfl, by omega, by simp, fun i hi => by omega, Own.grow hmade g79, Fr.refl _ _⟩, ?_⟩
  rintro - t w20 ⟨k, c, rfl, hk, hc, hval, hA20, hf20⟩
  have gw : ∀ {w'}, Fr (fun i => i = A) w9 w' → Grow w1 w' := fun hf => g19.fr hf fun i hi e => by omega
  have g120 := gw hf20
  refine condD (fun hlt => ?_) fun hge => ?_
  · have hkl : k < b.length := by omega
    refine SlX.loc (sb.gr (g1.trans g120)) rfl hkl rfl fun w26 u g26 s26 hu c0 c1 => ?_
    refine ⟨[_, _], rfl, two c0 c1, (atomVars_c hu (bT _ (List.getElem_mem hkl))).mono ?_⟩
    rintro e w29 ⟨rfl, g29⟩
    have g2629 := g26.trans g29
    have hA29 : Arr w29 A n c := Own.grow hA20 g2629
    have aX : Addr.add ⟨A, 0, none⟩ (Int.toNat (k : Int) * 1) = ⟨A, k, none⟩ := by rw [Int.toNat_natCast, Nat.mul_one, Addr.add0]
    have hkn : k < n := by omega
    refine ⟨_, rfl, _, _, _, rfl, ⟨by omega, by omega⟩, ?_⟩
    rw [aX]
    refine ⟨(Own.wr hA29 hkn).1, (Own.wr hA29 hkn).2, fun w35 hw35 => ⟨by unfold inR; omega, ⟨k + 1, c.set k ((varsL b[k].2 : Nat) : Int), by omega, by omega, by simpa using hc, fun i hi => ?_, hA29.put hkn hw35, (hf20.trans (Fr.of_grow g2629)).trans (set_fr hw35)⟩, by dsimp only; omega⟩⟩
    rw [getD_setI (by omega)]
    split
    · rename_i e
      subst e
      simp [varsOf, List.getD, hkl]
    · exact hval i (by omega)
  · have hkn : k = n := by omega
    subst hkn
    have hvl : (varsOf b).length = k := by simp [varsOf, hn]
    have ec : c = intN (varsOf b) := List.ext_getElem (by rw [intN_len, hvl, hc]) fun i a1 a2 => by
      have := hval i (by omega)
      have e1 : c.getD i 0 = c[i] := by simp [List.getD, a1]
      rw [intN_get (by rw [hvl]; omega), ← this, e1]
    rw [ec] at hA20
    have hv256 : ∀ j, (varsOf b).getD j 0 < 256 := fun j => by
      rcases Nat.lt_or_ge j b.length with hj | hj
      · simp only [varsOf, List.getD, List.getElem?_map, List.getElem?_eq_getElem hj, Option.map_some, Option.getD_some]
        exact varsL_lt (bT _ (List.getElem_mem hj))
      · simp [varsOf, List.getD, hj]
    rw [iShl_one (by omega)]
    have hP : 2 ^ k ≤ 2 ^ 5 := Nat.pow_le_pow_right (by omega) h5
    have hP1 : 1 ≤ 2 ^ k := Nat.one_le_two_pow
    have eL : (((2 ^ k : Nat) : Int) - 1) = ((2 ^ k - 1 : Nat) : Int) := by omega
    rw [eL]
    have hG20 : Arr w20 G k (List.replicate k (-1)) := Own.fr hG9 hf20 fun x hx e => by
      simp [Value.ownBlock] at hx
      omega
    refine ⟨by omega, by unfold inR; omega, fun left w' => ∃ l V p, EarW w20 A G k (varsOf b) w' left l V p, fun left _ => cnt k left.toNat, ⟨_, _, _, rfl, hA20, hG20, Fr.refl _ _, by omega, hvl, hv256, by simp, fun _ _ h => h⟩, ?_⟩
    rintro - left w40 ⟨l, V, p, E⟩
    obtain rfl := E.le
    have hAX : ∀ m : Nat, Addr.add ⟨A, 0, none⟩ (Int.toNat (m : Int) * 1) = ⟨A, m, none⟩ := fun m => by rw [Int.toNat_natCast, Nat.mul_one, Addr.add0]
    have hl64 : l < 64 := by have := E.ll; omega
    refine ⟨fun t w' => ∃ m : Nat, t = m ∧ m ≤ k ∧ Arr w' A k (intN (cutK k l V m)) ∧ Fr (fun i => i = A) w40 w', fun t _ => k - t.toNat, ⟨0, rfl, by omega, E.arr, Fr.refl _ _⟩, ?_⟩
    rintro - t w45 ⟨m, rfl, hm, hA45, hf45⟩
    have hcl := cutK_lt (left := l) E.lV E.bV m hm
    have hlen : (intN (cutK k l V m)).length = k := by rw [intN_len]; exact hcl.1
    refine condD (fun hlt => ?_) fun hge2 => ?_
    · have hmk : m < k := by omega
      refine ⟨fun oth t w' => ∃ j : Nat, t = j ∧ j ≤ k ∧ oth = ((othG l (cutK k l V m) m (List.range j) : Nat) : Int) ∧ w' = w45, fun _ t _ => k - t.toNat, ⟨0, rfl, by omega, rfl, rfl⟩, ?_⟩
      rintro - oth t w51 ⟨j, rfl, hj, rfl, rfl⟩
      have sl := hA45.sl hlen
      refine condD (fun hlt2 => ?_) fun hge3 => ?_
      · have hjk : j < k := by omega
        have step : ∀ {o : Int}, o = ((othG l (cutK k l V m) m (List.range (j + 1)) : Nat) : Int) → inR ((j : Int) + 1) ∧ ((∃ j' : Nat, (j : Int) + 1 = j' ∧ j' ≤ k ∧ o = ((othG l (cutK k l V m) m (List.range j') : Nat) : Int) ∧ w51 = w51) ∧ k - Int.toNat ((j : Int) + 1) < k - Int.toNat (j : Int)) := fun ho => ⟨by unfold inR; omega, ⟨j + 1, by omega, by omega, ho, rfl⟩, by omega⟩
        refine condP_i (fun hne => ⟨by omega, condD (fun hb => ?_) fun hb => step ?_⟩) fun heq => step ?_
        · have hne : j ≠ m := by simp at hne; omega
          have hb := (bit_oneT (by omega)).1 hb
          refine sl.rd rfl (by rw [hlen]; exact hjk) (step ?_)
          rw [intN_get (by rw [hcl.1]; exact hjk), iOr_nat (by have := othG_lt (left := l) (i := m) hcl.2 j; omega) (by have := hcl.2 j; omega), othG_succ, if_pos ⟨hne, hb⟩]
        · have hb : ¬ l.testBit j = true := fun h => hb ((bit_oneT (by omega)).2 h)
          rw [othG_succ, if_neg fun h => hb h.2]
        · have heq : j = m := by simp at heq; omega
          rw [othG_succ, if_neg fun h => h.1 heq]
      · have hjk : j = k := by omega
        subst hjk
        refine sl.rd rfl (by rw [hlen]; exact hmk) ⟨_, _, _, rfl, ⟨by omega, by omega⟩, ?_⟩
        rw [hAX]
        refine ⟨(Own.wr hA45 hmk).1, (Own.wr hA45 hmk).2, fun w63 hw63 => ⟨by unfold inR; omega, ⟨m + 1, by omega, by omega, ?_, hf45.trans (set_fr hw63)⟩, by dsimp only; omega⟩⟩
        have h9 := hA45.put hmk hw63
        rw [intN_get (by rw [hcl.1]; exact hmk), iAnd_nat (by have := hcl.2 m; omega) (by have := othG_lt (left := l) (i := m) hcl.2 j; omega), intN_set] at h9
        rw [cutK_succ]
        exact h9
    · have hmk : m = k := by omega
      subst hmk
      obtain ⟨U, hU⟩ : ∃ U, U = cutK m l V m := ⟨_, rfl⟩
      rw [← hU] at hA45 hcl hlen
      have hG45 : Arr w45 G m p := Own.fr E.par hf45 fun x hx e => by
        simp [Value.ownBlock] at hx
        omega
      refine ⟨fun ear other t w' => ∃ i : Nat, t = i ∧ i ≤ m ∧ (ear, other) = encP (pickN m l U i) ∧ Grow w45 w', fun _ _ t _ => m - t.toNat, ⟨0, rfl, by omega, rfl, Grow.refl _⟩, ?_⟩
      rintro - ear other t w70 ⟨i, rfl, hi, he, g70⟩
      refine condD (fun hlt => ?_) fun hge3 => ?_
      · have him : i < m := by omega
        refine ⟨fun ear other t w' => ∃ j : Nat, t = j ∧ j ≤ m ∧ (ear, other) = encP (pickIn l U i j (pickN m l U i)) ∧ Grow w45 w', fun _ _ t _ => m - t.toNat, ⟨0, rfl, by omega, he, g70⟩, ?_⟩
        rintro - ear2 other2 t w77 ⟨j, rfl, hj, he2, g77⟩
        have sl : SlI w77 (.slice (some ⟨A, 0, none⟩) m m) (intN U) := Arr.sl (Own.grow hA45 g77) hlen
        refine condD (fun hlt2 => ?_) fun hge4 => ?_
        · have hjm : j < m := by omega
          have no : ∀ {w'}, earT l U i j = false → Grow w77 w' → inR ((j : Int) + 1) ∧ ((∃ j' : Nat, (j : Int) + 1 = j' ∧ j' ≤ m ∧ (ear2, other2) = encP (pickIn l U i j' (pickN m l U i)) ∧ Grow w45 w') ∧ m - Int.toNat ((j : Int) + 1) < m - Int.toNat (j : Int)) := fun ht g => ⟨by unfold inR; omega, ⟨j + 1, by omega, by omega, by rw [pickIn_succ, ht]; exact he2, g77.trans g⟩, by omega⟩
          have yes : ∀ {w'}, earT l U i j = true → Grow w77 w' → inR ((j : Int) + 1) ∧ ((∃ j' : Nat, (j : Int) + 1 = j' ∧ j' ≤ m ∧ ((i : Int), (j : Int)) = encP (pickIn l U i j' (pickN m l U i)) ∧ Grow w45 w') ∧ m - Int.toNat ((j : Int) + 1) < m - Int.toNat (j : Int)) := fun ht g => ⟨by unfold inR; omega, ⟨j + 1, by omega, by omega, by rw [pickIn_succ, if_pos ht]; rfl, g77.trans g⟩, by omega⟩
          have gd : ∀ d : DM w77, Grow w77 (dr w77 d) := fun d => (Grow.refl w77).dr d
          refine condP_i (fun hne => ⟨by omega, condD (fun hbi => ⟨by omega, condD (fun hbj => ?_) fun hbj d => no ?_ (gd d)⟩) fun hbi d => no ?_ (gd d)⟩) fun heq d => no ?_ (gd d)
          · have hne : j ≠ i := by simp at hne; omega
            have hbi := (bit_oneT (by omega)).1 hbi
            have hbj := (bit_oneT (by omega)).1 hbj
            refine sl.rd rfl (by rw [hlen]; exact him) (sl.rd rfl (by rw [hlen]; exact hjm) fun d => ?_)
            rw [intN_get (by rw [hcl.1]; exact him), intN_get (by rw [hcl.1]; exact hjm)]
            refine condD (fun hz => yes ?_ (gd d)) fun hz => no ?_ (gd d)
            · have hz := (andNot_zero (hcl.2 i) (hcl.2 j)).1 hz
              simp only [earT, hbi, hbj, hz, hne, ne_eq, not_false_eq_true, decide_true, Bool.and_self]
            · have hz : ¬ U.getD i 0 &&& U.getD j 0 = U.getD i 0 := fun h => hz ((andNot_zero (hcl.2 i) (hcl.2 j)).2 h)
              rw [earT, decide_eq_false hz, Bool.and_false]
          · have hbj : l.testBit j = false := by
              rw [← Bool.not_eq_true]
              exact fun h => hbj ((bit_oneT (by omega)).2 h)
            rw [earT, hbj, Bool.and_false, Bool.false_and]
          · have hbi : l.testBit i = false := by
              rw [← Bool.not_eq_true]
              exact fun h => hbi ((bit_oneT (by omega)).2 h)
            rw [earT, hbi, Bool.and_false, Bool.false_and, Bool.false_and]
          · have heq : j = i := by simp at heq; omega
            rw [earT, decide_eq_false (fun h => h heq), Bool.false_and, Bool.false_and, Bool.false_and]
        · have hjm : j = m := by omega
          subst hjm
          exact ⟨by unfold inR; omega, ⟨i + 1, by omega, by omega, by rw [pickN_succ]; exact he2, g77⟩, by dsimp only; omega⟩
      · have him : i = m := by omega
        subst him
        have g2070 : Grow w1 w70 := by
          refine (gw hf20).fr ((E.fr.trans (hf45.mono fun x _ e => .inl e)).trans (Fr.of_grow g70)) fun x hx e => ?_
          omega
        cases hpick : pickN i l U i with
        | none =>
          rw [hpick] at he
          obtain ⟨rfl, rfl⟩ : ear = -1 ∧ other = -1 := by simpa [encP] using he
          refine cT (by decide) ?_
          rw [wrapU' (by omega)]
          refine (onesS_c hl64).mono ?_
          rintro e w90 ⟨rfl, g90⟩
          have hrun := E.run l p (.stop (by rw [← hU]; exact hpick))
          have sp : SlI w90 (.slice (some ⟨G, 0, none⟩) i i) p := Arr.sl (Own.grow hG45 (g70.trans g90)) E.lp
          refine ⟨_, rfl, condD (fun h1 => ⟨_, l, p, ?_, hrun, E.ll, E.lp, sp, (g1.trans g2070).trans g90⟩) fun h1 => ⟨_, l, p, ?_, hrun, E.ll, E.lp, sp, (g1.trans g2070).trans g90⟩⟩
          · rw [if_pos (by omega)]
            rfl
          · rw [if_neg (by omega)]
        | some ij =>
          obtain ⟨a, o⟩ := ij
          rw [hpick] at he
          obtain ⟨rfl, rfl⟩ : ear = (a : Int) ∧ other = (o : Int) := by simpa [encP] using he
          obtain ⟨ha, ho, ht⟩ := pick_some (Nat.le_refl i) hpick
          obtain ⟨b1, b2, b3, b4⟩ := earT_iff.1 ht
          refine cF (decide_eq_false (by omega)) ⟨by omega, _, _, _, rfl, ⟨by omega, by omega⟩, ?_⟩
          have hGX : Addr.add ⟨G, 0, none⟩ (Int.toNat (a : Int) * 1) = ⟨G, a, none⟩ := by rw [Int.toNat_natCast, Nat.mul_one, Addr.add0]
          rw [hGX]
          have hG70 : Arr w70 G i p := Own.grow hG45 g70
          refine ⟨(Own.wr hG70 ha).1, (Own.wr hG70 ha).2, fun w96 hw96 => ?_⟩
          rw [clr_eq (by omega) (by omega)]
          have hc := cnt_clr (n := i) (left := l) (i := a) ⟨ha, b2⟩
          refine ⟨⟨clr l a, U, p.set a (o : Int), rfl, ?_, hG70.put ha hw96, ?_, ?_, hcl.1, hcl.2, by rw [List.length_set]; exact E.lp, fun l2 p2 h2 => E.run l2 p2 (.go (by rw [← hU]; exact hpick) (by rw [← hU]; exact h2))⟩, ?_⟩
          · exact Own.fr (Own.grow hA45 g70) (set_fr hw96) fun x hx e => by
              simp [Value.ownBlock] at hx
              have e : x = G := e
              omega
          · exact ((E.fr.trans (hf45.mono fun x _ e => .inl e)).trans (Fr.of_grow g70)).trans ((set_fr hw96).mono fun x _ e => .inr e)
          · exact VC.nSub_lt E.ll
          · dsimp only
            rw [Int.toNat_natCast, Int.toNat_natCast]
            omega
end Go.Proofs.YtleiddajojgmmaaDoor

/- Contracts: Rest and JoinTree. No condition. -/
namespace Go.Proofs.YtleiddajojgmmaaDoor
open Go Go.RowKit VC
set_option linter.unusedSimpArgs false
set_option linter.unusedVariables false

def restV (l : Nat) : Nat := if pc l = 1 then 0 else l
theorem rest_c {w : World} {hv bv : Value} {h : List Int} {b : List Atm} (sh : SlI w hv h) (sb : SlA w bv b) :
    Calls Tryd.prog 10 #[.agg #[hv, bv]] w fun e w' => (okQ h b = false ∧ e = .returned (.tuple #[.int .i64 0, .int .i64 2]) ∨ okQ h b = true ∧ ∃ l2 p2, e = .returned (.tuple #[.int .i64 (restV l2 : Nat), .int .i64 0]) ∧ EarsR b.length (2 ^ b.length - 1) (varsOf b) (List.replicate b.length (-1)) l2 p2 ∧ l2 < 2 ^ b.length) ∧ Grow w w' := by
  refine f10_calls _ ?_
  refine ⟨_, rfl, fun w1 hw1 => ?_⟩
  have g1 := alloc_grow hw1
  have p0 := boxc hw1 0 hv rfl
  have p1 := boxc hw1 1 bv rfl
  refine ⟨[_, _], rfl, two p0 p1, (valid_c (sh.grow g1) (sb.gr g1)).mono ?_⟩
  rintro e w4 ⟨rfl, g4⟩
  have g04 := g1.trans g4
  refine ⟨_, rfl, condP_i (fun hn => ⟨.inl ⟨by simpa using hn, rfl⟩, g04⟩) fun hk => ?_⟩
  have ok : okQ h b = true := by simpa using hk
  have hbl := okQ_len ok
  have oa : ∀ a ∈ b, okA a = true := fun a ha => by
    simp only [okQ, Bool.and_eq_true, List.all_eq_true] at ok
    exact ok.1.2 a ha
  refine ⟨[_, _], rfl, two (g4.cell p0) (g4.cell p1), (ears_c (sb.gr g04) oa hbl.1 hbl.2.1).mono ?_⟩
  rintro e w8 ⟨pv, l2, p2, rfl, hE, hl, hp, sp, g8⟩
  exact ⟨_, _, rfl, .inr ⟨ok, l2, p2, rfl, hE, hl⟩, g04.trans g8⟩
end Go.Proofs.YtleiddajojgmmaaDoor
