/- Contract: the deletion of ears, by the program. No condition. -/
import Derived.Test.YtmjpnfapjcfejaaGreatDoorMs
import Derived.Test.YtmjpnfapjcfejaaGreatDoorMx
import Derived.Test.YtmjpnfapjcfejaaGreatDoorSc
import Derived.Test.YtmjpnfapjcfejaaGreatDoorMk
import Derived.Test.YtmjpnfapjcfejaaGreatDoorRf
namespace Go.Proofs.YtmjpnfapjcfejaaGreatDoor
open Go Go.RowKit VC
set_option linter.unusedSimpArgs false
set_option linter.unusedVariables false

def ocX1 (x : Int) : Int := IntKind.wrap .u64 ((iAnd .u64 (iShr .u64 x 1) 6148914691236517205) + (iAnd .u64 x 6148914691236517205))
def ocX2 (x : Int) : Int := IntKind.wrap .u64 ((iAnd .u64 (iShr .u64 x 2) 3689348814741910323) + (iAnd .u64 x 3689348814741910323))
def ocX3 (x : Int) : Int := iAnd .u64 (IntKind.wrap .u64 ((iShr .u64 x 4) + x)) 1085102592571150095
def ocX4 (x : Int) : Int := IntKind.wrap .u64 (x + (iShr .u64 x 8))
def ocX5 (x : Int) : Int := IntKind.wrap .u64 (x + (iShr .u64 x 16))
def ocX6 (x : Int) : Int := IntKind.wrap .u64 (x + (iShr .u64 x 32))
def ocXX (x : Int) : Int := iAnd .i64 (IntKind.wrap .i64 (ocX6 (ocX5 (ocX4 (ocX3 (ocX2 (ocX1 x))))))) 127
theorem ocXAll : ∀ s, s < 64 → (ocXX ((s : Nat) : Int) == ((pc s : Nat) : Int)) = true := by decide +kernel
theorem ones64S_c {s : Nat} (h : s < 64) {w : World} : Calls Tryz.prog 177 #[.int .u64 (s : Int)] w (Ret w (.int .i64 (pc s : Int))) := by
  refine f177_calls _ ?_
  have hk := ocXAll s h
  refine ⟨by omega, by omega, by omega, by omega, by omega, by omega, ?_, Grow.refl w⟩
  have : ocXX (s : Int) = ((pc s : Nat) : Int) := by simpa using hk
  rw [← this]
  rfl
theorem onesS_c {s : Nat} (h : s < 64) {w : World} : Calls Tryz.prog 164 #[.int .u64 (s : Int)] w (Ret w (.int .i64 (pc s : Int))) := by
  refine f164_calls _ ?_
  refine (ones64S_c h).mono ?_
  rintro e w' ⟨rfl, hg⟩
  exact ⟨_, rfl, rfl, hg⟩
theorem ownSelf {w : World} {B : Nat} {e : TypeId} {sz g n c : Nat} {cs : List Value} (h : Own w B e sz (.slice (some ⟨g, 0, none⟩) n c) n cs) : Own w g e sz (.slice (some ⟨g, 0, none⟩) n c) n cs := by
  refine ⟨h.1, .inr ?_⟩
  rcases h.2 with ⟨h1, _⟩ | ⟨g', cap', cur, he, hb, rest⟩
  · cases h1
  · simp only [Value.slice.injEq, Option.some.injEq, Addr.mk.injEq, and_true, true_and] at he
    obtain ⟨rfl, rfl⟩ := he
    exact ⟨_, _, cur, rfl, Nat.le_refl _, rest⟩
def intN (V : List Nat) : List Int := V.map fun (x : Nat) => (x : Int)
theorem intN_len (V : List Nat) : (intN V).length = V.length := by simp [intN]
/-- An array of ints in the block A. -/
abbrev Arr (w : World) (A n : Nat) (xs : List Int) : Prop := Own w A 3 1 (.slice (some ⟨A, 0, none⟩) n n) n (xs.map VC.encI)
theorem Arr.put {w w' : World} {A n i : Nat} {xs : List Int} {z : Int} (h : Arr w A n xs) (hi : i < n) (hw : w' = w.setCell ⟨A, i, none⟩ (.int .i64 z)) : Arr w' A n (xs.set i z) := by
  have h9 := Own.set h hi hw
  have e : (xs.map VC.encI).set i (Value.int .i64 z) = (xs.set i z).map VC.encI := by
    rw [show Value.int .i64 z = VC.encI z from rfl, ← List.map_set]
  rwa [e] at h9
theorem Arr.sl {w : World} {A n : Nat} {xs : List Int} (h : Arr w A n xs) (hl : xs.length = n) : SlI w (.slice (some ⟨A, 0, none⟩) n n) xs := Own.slI h
def encP : Option (Nat × Nat) → Int × Int
  | none => (-1, -1)
  | some (i, k) => ((i : Int), (k : Int))
theorem intN_get {V : List Nat} {i : Nat} (hi : i < V.length) : (intN V)[i]'(by rw [intN_len]; exact hi) = ((V.getD i 0 : Nat) : Int) := by
  simp [intN, List.getD, hi]
theorem intN_set (V : List Nat) (i z : Nat) : (intN V).set i (z : Int) = intN (V.set i z) := by
  simp [intN, List.map_set]
theorem othG_lt {left : Nat} {V : List Nat} {i : Nat} (hV : ∀ k, V.getD k 0 < 256) : ∀ j, othG left V i (List.range j) < 256 := fun j => by
  refine Nat.lt_pow_two_of_testBit (n := 8) _ fun x hx => ?_
  cases h : (othG left V i (List.range j)).testBit x with
  | false => rfl
  | true =>
    unfold othG at h
    rw [oth_go] at h
    rcases h with h | ⟨k, -, -, -, h⟩
    · simp at h
    · rw [Nat.testBit_lt_two_pow (Nat.lt_of_lt_of_le (hV k) (Nat.pow_le_pow_right (by omega) hx : 2 ^ 8 ≤ 2 ^ x))] at h
      cases h
theorem othG_succ (left : Nat) (V : List Nat) (i j : Nat) : othG left V i (List.range (j + 1)) = if j ≠ i ∧ left.testBit j = true then othG left V i (List.range j) ||| V.getD j 0 else othG left V i (List.range j) := by
  unfold othG
  rw [List.range_succ, List.foldl_append]
  rfl
theorem cutK_lt {n left : Nat} {V : List Nat} (hl : V.length = n) (hV : ∀ k, V.getD k 0 < 256) : ∀ k, k ≤ n → (cutK n left V k).length = n ∧ ∀ j, (cutK n left V k).getD j 0 < 256
  | 0, _ => ⟨hl, hV⟩
  | k + 1, hk => by
    obtain ⟨h1, h2⟩ := cutK_lt (left := left) hl hV k (by omega)
    rw [cutK_succ]
    refine ⟨by unfold cutN; rw [List.length_set]; exact h1, fun j => ?_⟩
    rw [cut_get h1 (by omega)]
    split
    · exact Nat.lt_of_le_of_lt Nat.and_le_left (h2 k)
    · exact h2 j
/-- Between the rounds. -/
structure EarW (w20 : World) (A G n : Nat) (V0 : List Nat) (w' : World) (left : Int) (l : Nat) (V : List Nat) (p : List Int) : Prop where
  le : left = (l : Int)
  arr : Arr w' A n (intN V)
  par : Arr w' G n p
  fr : Fr (fun i => i = A ∨ i = G) w20 w'
  ll : l < 2 ^ n
  lV : V.length = n
  bV : ∀ k, V.getD k 0 < 256
  lp : p.length = n
  run : ∀ l2 p2, EarsR n l V p l2 p2 → EarsR n (2 ^ n - 1) V0 (List.replicate n (-1)) l2 p2
/-- The rounds of the deletion. -/
theorem clr_eq {l i : Nat} (hi : i < 63) (hl : l < 9223372036854775808) : iAndNot .i64 (l : Int) (iShl .i64 1 (i : Int)) = ((clr l i : Nat) : Int) := by
  have : 2 ^ i < 2 ^ 63 := Nat.pow_lt_pow_right (by omega) hi
  rw [iShl_one hi, iAndNot_nat hl (by omega)]
  rfl
theorem andNot_zero {a b : Nat} (ha : a < 256) (hb : b < 256) : (iAndNot .i64 (a : Int) (b : Int) = 0) ↔ a &&& b = a := by
  rw [iAndNot_nat (by omega) (by omega)]
  constructor
  · intro h
    have h : nSub a b = 0 := by omega
    refine sub_bits.2 fun x hx => ?_
    have h2 := nSub_bit a b x
    rw [h, Nat.zero_testBit, hx] at h2
    simpa using h2.symm
  · intro h
    have : nSub a b = 0 := Nat.eq_of_testBit_eq fun x => by
      rw [nSub_bit, Nat.zero_testBit]
      cases hx : a.testBit x with
      | false => rfl
      | true => rw [sub_bits.1 h x hx]; rfl
    rw [this]
    rfl
end Go.Proofs.YtmjpnfapjcfejaaGreatDoor

/- Contract: the deletion of ears, by the program (ears). No condition. -/
namespace Go.Proofs.YtmjpnfapjcfejaaGreatDoor
open Go Go.RowKit VC
set_option linter.unusedSimpArgs false
set_option linter.unusedVariables false

def varsOf (b : List Atm) : List Nat := b.map fun a => varsL a.2
theorem bit_oneT {s i : Nat} (h : i < 63) : (iAnd .i64 (iShr .i64 (s : Int) (i : Int)) 1 = 1) ↔ s.testBit i = true := by
  rw [iBit _ (by omega), ibit_nat]
  cases s.testBit i <;> simp
theorem ears_c {w : World} {hv bv : Value} {b : List Atm} (sb : SlA w bv b) (ob : ∀ a ∈ b, okA a = true) (h1 : 1 ≤ b.length) (h5 : b.length ≤ 5) :
    Calls Tryz.prog 132 #[.agg #[hv, bv]] w fun e w' => ∃ pv l2 p2, e = .returned (.tuple #[.int .i64 ((if pc l2 = 1 then 0 else l2 : Nat) : Int), pv]) ∧ EarsR b.length (2 ^ b.length - 1) (varsOf b) (List.replicate b.length (-1)) l2 p2 ∧ l2 < 2 ^ b.length ∧ p2.length = b.length ∧ SlI w' pv p2 ∧ Grow w w' := by
  refine f132_calls _ ?_
  refine ⟨_, rfl, fun w1 hw1 => ?_⟩
  have g1 := alloc_grow hw1
  have s1 := alloc_size hw1
  have p1 := boxc hw1 1 bv rfl
  have bT : ∀ a ∈ b, ∀ x ∈ a.2, -9 ≤ x ∧ x ≤ 7 := fun a ha => (okA_iff.1 (ob a ha)).2.2.2.2
  refine ⟨_, p1, SlX.ln (sb.gr g1) ?_⟩
  obtain ⟨n, hn⟩ : ∃ n, n = b.length := ⟨_, rfl⟩
  rw [← hn] at h1 h5 ⊢
  refine ⟨⟨by omega, by omega, by omega, by omega⟩, fun w7 hw7 w8 hw8 => ?_⟩
  rw [Int.toNat_natCast] at hw7 ⊢
  have g7 := alloc_grow hw7
  have s7 := alloc_size hw7
  have g8 := alloc_grow hw8
  have s8 := alloc_size hw8
  obtain ⟨A, hA⟩ : ∃ A, A = w1.heap.size := ⟨_, rfl⟩
  have hmade : Arr w7 A n (List.replicate n 0) := by
    have := Own.made hw7 (n := n) (by omega) (Nat.le_refl _) (by omega)
    rw [hA]
    have e : (List.replicate n (0 : Int)).map VC.encI = List.replicate n (Value.int .i64 0) := by simp [VC.encI]
    show Own w7 w1.heap.size 3 1 (.slice (some ⟨w1.heap.size, 0, none⟩) n n) n ((List.replicate n (0 : Int)).map VC.encI)
    rw [e]
    exact this
  have hm1 := slI_lit (xs := [-1]) hw8 rfl (by simp)
  refine (repeat_c (n := n) (z := -1) hm1 h1 (by omega)).mono ?_
  rintro e w9 ⟨G, rfl, hG, g9⟩
  have hGl := Own.lt hG (k := G) rfl
  have hAG : A ≠ G := by omega
  have hG9 : Arr w9 G n (List.replicate n (-1)) := by
    have h9 : Own w9 w8.heap.size 3 1 (.slice (some ⟨G, 0, none⟩) n n) n ((List.replicate n (-1 : Int)).map VC.encI) := by
      have := hG
      unfold OwnI at this
      rwa [List.length_replicate] at this
    exact ownSelf h9
  rw [← hA]
  have g79 := g8.trans g9
  have g19 := g7.trans g79
  have g09 := g1.trans g19
  refine ⟨_, rfl, _, g19.cell p1, SlX.ln (sb.gr g09) ?_⟩
  rw [← hn]
  -- the sets of variables
  refine ⟨fun t w' => ∃ (k : Nat) (c : List Int), t = k ∧ k ≤ n ∧ c.length = n ∧ (∀ i, i < k → c.getD i 0 = (((varsOf b).getD i 0 : Nat) : Int)) ∧ Arr w' A n c ∧ Fr (fun i => i = A) w9 w', fun t _ => n - t.toNat, ⟨0, _, rfl, by omega, by simp, fun i hi => by omega, Own.grow hmade g79, Fr.refl _ _⟩, ?_⟩
  rintro - t w20 ⟨k, c, rfl, hk, hc, hval, hA20, hf20⟩
  have gw : ∀ {w'}, Fr (fun i => i = A) w9 w' → Grow w1 w' := fun hf => g19.fr hf fun i hi e => by omega
  have g120 := gw hf20
  refine condD (fun hlt => ?_) fun hge => ?_
  · have hkl : k < b.length := by omega
    refine SlX.loc (sb.gr (g1.trans g120)) rfl hkl rfl fun w26 u g26 s26 hu c0 c1 => ?_
    refine ⟨[_, _], rfl, two c0 c1, (atomVars_c hu (bT _ (List.getElem_mem hkl))).mono ?_⟩
    rintro e w29 ⟨rfl, g29⟩
    have g2629 := g26.trans g29
    have hA29 : Arr w29 A n c := Own.grow hA20 g2629
    have aX : Addr.add ⟨A, 0, none⟩ (Int.toNat (k : Int) * 1) = ⟨A, k, none⟩ := by rw [Int.toNat_natCast, Nat.mul_one, Addr.add0]
    have hkn : k < n := by omega
    refine ⟨_, rfl, _, _, _, rfl, ⟨by omega, by omega⟩, ?_⟩
    rw [aX]
    refine ⟨(Own.wr hA29 hkn).1, (Own.wr hA29 hkn).2, fun w35 hw35 => ⟨by unfold inR; omega, ⟨k + 1, c.set k ((varsL b[k].2 : Nat) : Int), by omega, by omega, by simpa using hc, fun i hi => ?_, hA29.put hkn hw35, (hf20.trans (Fr.of_grow g2629)).trans (set_fr hw35)⟩, by dsimp only; omega⟩⟩
    rw [getD_setI (by omega)]
    split
    · rename_i e
      subst e
      simp [varsOf, List.getD, hkl]
    · exact hval i (by omega)
  · have hkn : k = n := by omega
    subst hkn
    have hvl : (varsOf b).length = k := by simp [varsOf, hn]
    have ec : c = intN (varsOf b) := List.ext_getElem (by rw [intN_len, hvl, hc]) fun i a1 a2 => by
      have := hval i (by omega)
      have e1 : c.getD i 0 = c[i] := by simp [List.getD, a1]
      rw [intN_get (by rw [hvl]; omega), ← this, e1]
    rw [ec] at hA20
    have hv256 : ∀ j, (varsOf b).getD j 0 < 256 := fun j => by
      rcases Nat.lt_or_ge j b.length with hj | hj
      · simp only [varsOf, List.getD, List.getElem?_map, List.getElem?_eq_getElem hj, Option.map_some, Option.getD_some]
        exact varsL_lt (bT _ (List.getElem_mem hj))
      · simp [varsOf, List.getD, hj]
    rw [iShl_one (by omega)]
    have hP : 2 ^ k ≤ 2 ^ 5 := Nat.pow_le_pow_right (by omega) h5
    have hP1 : 1 ≤ 2 ^ k := Nat.one_le_two_pow
    have eL : (((2 ^ k : Nat) : Int) - 1) = ((2 ^ k - 1 : Nat) : Int) := by omega
    rw [eL]
    have hG20 : Arr w20 G k (List.replicate k (-1)) := Own.fr hG9 hf20 fun x hx e => by
      simp [Value.ownBlock] at hx
      omega
    refine ⟨by omega, by unfold inR; omega, fun left w' => ∃ l V p, EarW w20 A G k (varsOf b) w' left l V p, fun left _ => cnt k left.toNat, ⟨_, _, _, rfl, hA20, hG20, Fr.refl _ _, by omega, hvl, hv256, by simp, fun _ _ h => h⟩, ?_⟩
    rintro - left w40 ⟨l, V, p, E⟩
    obtain rfl := E.le
    have hAX : ∀ m : Nat, Addr.add ⟨A, 0, none⟩ (Int.toNat (m : Int) * 1) = ⟨A, m, none⟩ := fun m => by rw [Int.toNat_natCast, Nat.mul_one, Addr.add0]
    have hl64 : l < 64 := by have := E.ll; omega
    refine ⟨fun t w' => ∃ m : Nat, t = m ∧ m ≤ k ∧ Arr w' A k (intN (cutK k l V m)) ∧ Fr (fun i => i = A) w40 w', fun t _ => k - t.toNat, ⟨0, rfl, by omega, E.arr, Fr.refl _ _⟩, ?_⟩
    rintro - t w45 ⟨m, rfl, hm, hA45, hf45⟩
    have hcl := cutK_lt (left := l) E.lV E.bV m hm
    have hlen : (intN (cutK k l V m)).length = k := by rw [intN_len]; exact hcl.1
    refine condD (fun hlt => ?_) fun hge2 => ?_
    · have hmk : m < k := by omega
      refine ⟨fun oth t w' => ∃ j : Nat, t = j ∧ j ≤ k ∧ oth = ((othG l (cutK k l V m) m (List.range j) : Nat) : Int) ∧ w' = w45, fun _ t _ => k - t.toNat, ⟨0, rfl, by omega, rfl, rfl⟩, ?_⟩
      rintro - oth t w51 ⟨j, rfl, hj, rfl, rfl⟩
      have sl := hA45.sl hlen
      refine condD (fun hlt2 => ?_) fun hge3 => ?_
      · have hjk : j < k := by omega
        have step : ∀ {o : Int}, o = ((othG l (cutK k l V m) m (List.range (j + 1)) : Nat) : Int) → inR ((j : Int) + 1) ∧ ((∃ j' : Nat, (j : Int) + 1 = j' ∧ j' ≤ k ∧ o = ((othG l (cutK k l V m) m (List.range j') : Nat) : Int) ∧ w51 = w51) ∧ k - Int.toNat ((j : Int) + 1) < k - Int.toNat (j : Int)) := fun ho => ⟨by unfold inR; omega, ⟨j + 1, by omega, by omega, ho, rfl⟩, by omega⟩
        refine condP_i (fun hne => ⟨by omega, condD (fun hb => ?_) fun hb => step ?_⟩) fun heq => step ?_
        · have hne : j ≠ m := by simp at hne; omega
          have hb := (bit_oneT (by omega)).1 hb
          refine sl.rd rfl (by rw [hlen]; exact hjk) (step ?_)
          rw [intN_get (by rw [hcl.1]; exact hjk), iOr_nat (by have := othG_lt (left := l) (i := m) hcl.2 j; omega) (by have := hcl.2 j; omega), othG_succ, if_pos ⟨hne, hb⟩]
        · have hb : ¬ l.testBit j = true := fun h => hb ((bit_oneT (by omega)).2 h)
          rw [othG_succ, if_neg fun h => hb h.2]
        · have heq : j = m := by simp at heq; omega
          rw [othG_succ, if_neg fun h => h.1 heq]
      · have hjk : j = k := by omega
        subst hjk
        refine sl.rd rfl (by rw [hlen]; exact hmk) ⟨_, _, _, rfl, ⟨by omega, by omega⟩, ?_⟩
        rw [hAX]
        refine ⟨(Own.wr hA45 hmk).1, (Own.wr hA45 hmk).2, fun w63 hw63 => ⟨by unfold inR; omega, ⟨m + 1, by omega, by omega, ?_, hf45.trans (set_fr hw63)⟩, by dsimp only; omega⟩⟩
        have h9 := hA45.put hmk hw63
        rw [intN_get (by rw [hcl.1]; exact hmk), iAnd_nat (by have := hcl.2 m; omega) (by have := othG_lt (left := l) (i := m) hcl.2 j; omega), intN_set] at h9
        rw [cutK_succ]
        exact h9
    · have hmk : m = k := by omega
      subst hmk
      obtain ⟨U, hU⟩ : ∃ U, U = cutK m l V m := ⟨_, rfl⟩
      rw [← hU] at hA45 hcl hlen
      have hG45 : Arr w45 G m p := Own.fr E.par hf45 fun x hx e => by
        simp [Value.ownBlock] at hx
        omega
      refine ⟨fun ear other t w' => ∃ i : Nat, t = i ∧ i ≤ m ∧ (ear, other) = encP (pickN m l U i) ∧ Grow w45 w', fun _ _ t _ => m - t.toNat, ⟨0, rfl, by omega, rfl, Grow.refl _⟩, ?_⟩
      rintro - ear other t w70 ⟨i, rfl, hi, he, g70⟩
      refine condD (fun hlt => ?_) fun hge3 => ?_
      · have him : i < m := by omega
        refine ⟨fun ear other t w' => ∃ j : Nat, t = j ∧ j ≤ m ∧ (ear, other) = encP (pickIn l U i j (pickN m l U i)) ∧ Grow w45 w', fun _ _ t _ => m - t.toNat, ⟨0, rfl, by omega, he, g70⟩, ?_⟩
        rintro - ear2 other2 t w77 ⟨j, rfl, hj, he2, g77⟩
        have sl : SlI w77 (.slice (some ⟨A, 0, none⟩) m m) (intN U) := Arr.sl (Own.grow hA45 g77) hlen
        refine condD (fun hlt2 => ?_) fun hge4 => ?_
        · have hjm : j < m := by omega
          have no : ∀ {w'}, earT l U i j = false → Grow w77 w' → inR ((j : Int) + 1) ∧ ((∃ j' : Nat, (j : Int) + 1 = j' ∧ j' ≤ m ∧ (ear2, other2) = encP (pickIn l U i j' (pickN m l U i)) ∧ Grow w45 w') ∧ m - Int.toNat ((j : Int) + 1) < m - Int.toNat (j : Int)) := fun ht g => ⟨by unfold inR; omega, ⟨j + 1, by omega, by omega, by rw [pickIn_succ, ht]; exact he2, g77.trans g⟩, by omega⟩
          have yes : ∀ {w'}, earT l U i j = true → Grow w77 w' → inR ((j : Int) + 1) ∧ ((∃ j' : Nat, (j : Int) + 1 = j' ∧ j' ≤ m ∧ ((i : Int), (j : Int)) = encP (pickIn l U i j' (pickN m l U i)) ∧ Grow w45 w') ∧ m - Int.toNat ((j : Int) + 1) < m - Int.toNat (j : Int)) := fun ht g => ⟨by unfold inR; omega, ⟨j + 1, by omega, by omega, by rw [pickIn_succ, if_pos ht]; rfl, g77.trans g⟩, by omega⟩
          have gd : ∀ d : DM w77, Grow w77 (dr w77 d) := fun d => (Grow.refl w77).dr d
          refine condP_i (fun hne => ⟨by omega, condD (fun hbi => ⟨by omega, condD (fun hbj => ?_) fun hbj d => no ?_ (gd d)⟩) fun hbi d => no ?_ (gd d)⟩) fun heq d => no ?_ (gd d)
          · have hne : j ≠ i := by simp at hne; omega
            have hbi := (bit_oneT (by omega)).1 hbi
            have hbj := (bit_oneT (by omega)).1 hbj
            refine sl.rd rfl (by rw [hlen]; exact him) (sl.rd rfl (by rw [hlen]; exact hjm) fun d => ?_)
            rw [intN_get (by rw [hcl.1]; exact him), intN_get (by rw [hcl.1]; exact hjm)]
            refine condD (fun hz => yes ?_ (gd d)) fun hz => no ?_ (gd d)
            · have hz := (andNot_zero (hcl.2 i) (hcl.2 j)).1 hz
              simp only [earT, hbi, hbj, hz, hne, ne_eq, not_false_eq_true, decide_true, Bool.and_self]
            · have hz : ¬ U.getD i 0 &&& U.getD j 0 = U.getD i 0 := fun h => hz ((andNot_zero (hcl.2 i) (hcl.2 j)).2 h)
              rw [earT, decide_eq_false hz, Bool.and_false]
          · have hbj : l.testBit j = false := by
              rw [← Bool.not_eq_true]
              exact fun h => hbj ((bit_oneT (by omega)).2 h)
            rw [earT, hbj, Bool.and_false, Bool.false_and]
          · have hbi : l.testBit i = false := by
              rw [← Bool.not_eq_true]
              exact fun h => hbi ((bit_oneT (by omega)).2 h)
            rw [earT, hbi, Bool.and_false, Bool.false_and, Bool.false_and]
          · have heq : j = i := by simp at heq; omega
            rw [earT, decide_eq_false (fun h => h heq), Bool.false_and, Bool.false_and, Bool.false_and]
        · have hjm : j = m := by omega
          subst hjm
          exact ⟨by unfold inR; omega, ⟨i + 1, by omega, by omega, by rw [pickN_succ]; exact he2, g77⟩, by dsimp only; omega⟩
      · have him : i = m := by omega
        subst him
        have g2070 : Grow w1 w70 := by
          refine (gw hf20).fr ((E.fr.trans (hf45.mono fun x _ e => .inl e)).trans (Fr.of_grow g70)) fun x hx e => ?_
          omega
        cases hpick : pickN i l U i with
        | none =>
          rw [hpick] at he
          obtain ⟨rfl, rfl⟩ : ear = -1 ∧ other = -1 := by simpa [encP] using he
          refine cT (by decide) ?_
          rw [wrapU' (by omega)]
          refine (onesS_c hl64).mono ?_
          rintro e w90 ⟨rfl, g90⟩
          have hrun := E.run l p (.stop (by rw [← hU]; exact hpick))
          have sp : SlI w90 (.slice (some ⟨G, 0, none⟩) i i) p := Arr.sl (Own.grow hG45 (g70.trans g90)) E.lp
          refine ⟨_, rfl, condD (fun h1 => ⟨_, l, p, ?_, hrun, E.ll, E.lp, sp, (g1.trans g2070).trans g90⟩) fun h1 => ⟨_, l, p, ?_, hrun, E.ll, E.lp, sp, (g1.trans g2070).trans g90⟩⟩
          · rw [if_pos (by omega)]
            rfl
          · rw [if_neg (by omega)]
        | some ij =>
          obtain ⟨a, o⟩ := ij
          rw [hpick] at he
          obtain ⟨rfl, rfl⟩ : ear = (a : Int) ∧ other = (o : Int) := by simpa [encP] using he
          obtain ⟨ha, ho, ht⟩ := pick_some (Nat.le_refl i) hpick
          obtain ⟨b1, b2, b3, b4⟩ := earT_iff.1 ht
          refine cF (decide_eq_false (by omega)) ⟨by omega, _, _, _, rfl, ⟨by omega, by omega⟩, ?_⟩
          have hGX : Addr.add ⟨G, 0, none⟩ (Int.toNat (a : Int) * 1) = ⟨G, a, none⟩ := by rw [Int.toNat_natCast, Nat.mul_one, Addr.add0]
          rw [hGX]
          have hG70 : Arr w70 G i p := Own.grow hG45 g70
          refine ⟨(Own.wr hG70 ha).1, (Own.wr hG70 ha).2, fun w96 hw96 => ?_⟩
          rw [clr_eq (by omega) (by omega)]
          have hc := cnt_clr (n := i) (left := l) (i := a) ⟨ha, b2⟩
          refine ⟨⟨clr l a, U, p.set a (o : Int), rfl, ?_, hG70.put ha hw96, ?_, ?_, hcl.1, hcl.2, by rw [List.length_set]; exact E.lp, fun l2 p2 h2 => E.run l2 p2 (.go (by rw [← hU]; exact hpick) (by rw [← hU]; exact h2))⟩, ?_⟩
          · exact Own.fr (Own.grow hA45 g70) (set_fr hw96) fun x hx e => by
              simp [Value.ownBlock] at hx
              have e : x = G := e
              omega
          · exact ((E.fr.trans (hf45.mono fun x _ e => .inl e)).trans (Fr.of_grow g70)).trans ((set_fr hw96).mono fun x _ e => .inr e)
          · exact VC.nSub_lt E.ll
          · dsimp only
            rw [Int.toNat_natCast, Int.toNat_natCast]
            omega
end Go.Proofs.YtmjpnfapjcfejaaGreatDoor

/- Contracts: Rest and JoinTree. No condition. -/
namespace Go.Proofs.YtmjpnfapjcfejaaGreatDoor
open Go Go.RowKit VC
set_option linter.unusedSimpArgs false
set_option linter.unusedVariables false

def restV (l : Nat) : Nat := if pc l = 1 then 0 else l
theorem rest_c {w : World} {hv bv : Value} {h : List Int} {b : List Atm} (sh : SlI w hv h) (sb : SlA w bv b) :
    Calls Tryz.prog 95 #[.agg #[hv, bv]] w fun e w' => (okQ h b = false ∧ e = .returned (.tuple #[.int .i64 0, .int .i64 2]) ∨ okQ h b = true ∧ ∃ l2 p2, e = .returned (.tuple #[.int .i64 (restV l2 : Nat), .int .i64 0]) ∧ EarsR b.length (2 ^ b.length - 1) (varsOf b) (List.replicate b.length (-1)) l2 p2 ∧ l2 < 2 ^ b.length) ∧ Grow w w' := by
  refine f95_calls _ ?_
  refine ⟨_, rfl, fun w1 hw1 => ?_⟩
  have g1 := alloc_grow hw1
  have p0 := boxc hw1 0 hv rfl
  have p1 := boxc hw1 1 bv rfl
  refine ⟨[_, _], rfl, two p0 p1, (valid_c (sh.grow g1) (sb.gr g1)).mono ?_⟩
  rintro e w4 ⟨rfl, g4⟩
  have g04 := g1.trans g4
  refine ⟨_, rfl, condP_i (fun hn => ⟨.inl ⟨by simpa using hn, rfl⟩, g04⟩) fun hk => ?_⟩
  have ok : okQ h b = true := by simpa using hk
  have hbl := okQ_len ok
  have oa : ∀ a ∈ b, okA a = true := fun a ha => by
    simp only [okQ, Bool.and_eq_true, List.all_eq_true] at ok
    exact ok.1.2 a ha
  refine ⟨[_, _], rfl, two (g4.cell p0) (g4.cell p1), (ears_c (sb.gr g04) oa hbl.1 hbl.2.1).mono ?_⟩
  rintro e w8 ⟨pv, l2, p2, rfl, hE, hl, hp, sp, g8⟩
  exact ⟨_, _, rfl, .inr ⟨ok, l2, p2, rfl, hE, hl⟩, g04.trans g8⟩
end Go.Proofs.YtmjpnfapjcfejaaGreatDoor

/- Contracts: variables, plain questions, why the attacks can't be found, by the program. No condition. -/
namespace Go.Proofs.YtmjpnfapjcfejaaGreatDoor
open Go Go.RowKit VC
set_option linter.unusedSimpArgs false
set_option linter.unusedVariables false

theorem vars7_c {w : World} {v : Value} {xs : List Int} (hs : SlI w v xs) (hx : ∀ x ∈ xs, -9 ≤ x ∧ x ≤ 7) : Calls Tryz.prog 99 #[v] w (Ret w (.int .i64 (varsL xs : Nat))) := by
  refine f99_calls _ ?_
  have hle := hs.len_le
  have hb := varsL_take hx
  refine hs.ln ⟨fun set t w' => ∃ k : Nat, t = k ∧ k ≤ xs.length ∧ set = ((varsL (xs.take k) : Nat) : Int) ∧ w' = w, fun _ t _ => xs.length - t.toNat, ⟨0, rfl, by omega, rfl, rfl⟩, ?_⟩
  rintro - - t w2 ⟨k, rfl, hk, rfl, rfl⟩
  refine condD (fun hlt => ?_) (fun hge => ?_)
  · have hkl : k < xs.length := by omega
    have hxk := hx _ (List.getElem_mem hkl)
    have ht := List.take_succ_eq_append_getElem hkl
    have hb1 := hb k
    refine hs.rd rfl hkl (condD (fun h0 => ?_) fun h0 => ?_)
    · obtain ⟨n, hn⟩ : ∃ n : Nat, xs[k] = (n : Int) := ⟨xs[k].toNat, by first | omega | (dsimp only; omega)⟩
      have h2 : 2 ^ n < 256 := Nat.pow_lt_pow_right (a := 2) (n := 8) (by omega) (by omega)
      refine ⟨by omega, by unfold inR; omega, ⟨k + 1, by omega, by omega, ?_, rfl⟩, by first | omega | (dsimp only; omega)⟩
      rw [ht, varsL_app, if_pos h0, hn, iShl_one (by omega), iOr_nat (by omega) (by omega), Int.toNat_natCast]
    · refine ⟨by unfold inR; omega, ⟨k + 1, by omega, by omega, ?_, rfl⟩, by first | omega | (dsimp only; omega)⟩
      rw [ht, varsL_app, if_neg h0, Nat.or_zero]
  · have hkl : k = xs.length := by omega
    subst hkl
    exact ⟨by rw [List.take_length], Grow.refl _⟩
/-! ## Plain -/
def plnB (b : List Atm) : Bool := decide (b.map Prod.fst).Nodup
theorem plnB_succ {b : List Atm} {k : Nat} (hk : k < b.length) : plnB (b.take (k + 1)) = (plnB (b.take k) && !((b.take k).any fun a => decide (a.1 = b[k].1))) := by
  rw [Bool.eq_iff_iff]
  unfold plnB
  rw [List.take_succ_eq_append_getElem hk, List.map_append, Bool.and_eq_true, decide_eq_true_eq, decide_eq_true_eq, List.nodup_append, Bool.not_eq_true', ← Bool.not_eq_true, List.any_eq_true]
  constructor
  · rintro ⟨h1, -, h2⟩
    refine ⟨h1, ?_⟩
    rintro ⟨a, ha, e⟩
    exact h2 a.1 (List.mem_map.2 ⟨a, ha, rfl⟩) b[k].1 (by simp) (of_decide_eq_true e)
  · rintro ⟨h1, h2⟩
    refine ⟨h1, by simp, fun x hx y hy e => ?_⟩
    obtain ⟨a, ha, rfl⟩ := List.mem_map.1 hx
    have hy : y = b[k].1 := by simpa using hy
    exact h2 ⟨a, ha, decide_eq_true (e.trans hy)⟩
theorem plnB_bad {b : List Atm} : ∀ {k : Nat}, plnB (b.take k) = false → plnB b = false := fun {k} h => by
  unfold plnB at h ⊢
  rw [decide_eq_false_iff_not] at h ⊢
  intro h2
  apply h
  rw [List.map_take]
  exact h2.sublist (List.take_sublist _ _)
theorem plnB_iff {b : List Atm} : plnB b = true → PlainA b ∧ b.Nodup := fun h => by
  have h := of_decide_eq_true h
  have hn : b.Nodup := by
    rw [List.nodup_iff_pairwise_ne, List.pairwise_map] at h
    exact h.imp fun hne e => hne (by rw [e])
  refine ⟨fun a ha c hc e => ?_, hn⟩
  obtain ⟨i, hi, rfl⟩ := List.getElem_of_mem ha
  obtain ⟨j, hj, rfl⟩ := List.getElem_of_mem hc
  have : i = j := by
    refine List.getElem_inj (h₀ := by simpa using hi) (h₁ := by simpa using hj) h |>.1 ?_
    simpa using e
  subst this
  rfl
theorem plain1_c {w : World} {r r' : Int} {u : Value} {p : Addr} (c0 : w.cell? (p.add 0) = some (.int .i64 r')) : Calls Tryz.prog 133 #[.agg #[.int .i64 r, u], .pointer (some p)] w (Ret w (.bool (decide (r = r')))) := by
  refine f133_calls _ _ ⟨_, rfl, fun w1 hw1 => ?_⟩
  have g1 := alloc_grow hw1
  exact ⟨_, boxc hw1 0 _ rfl, _, g1.cell c0, rfl, g1⟩
theorem plain_c {w : World} {hv bv : Value} {b : List Atm} (sb : SlA w bv b) : Calls Tryz.prog 96 #[.agg #[hv, bv]] w (Ret w (.bool (plnB b))) := by
  refine f96_calls _ ⟨_, rfl, fun w1 hw1 => ?_⟩
  have g1 := alloc_grow hw1
  have hQ := RecV.new hw1
  have hle := SlX.len_le sb
  refine ⟨_, boxc hw1 1 _ rfl, SlX.ln (sb.gr g1) ?_⟩
  refine ⟨fun t w' => ∃ k : Nat, t = k ∧ k ≤ b.length ∧ plnB (b.take k) = true ∧ Grow w1 w', fun t _ => b.length - t.toNat, ⟨0, rfl, by omega, rfl, Grow.refl _⟩, ?_⟩
  rintro - t w11 ⟨k, rfl, hk, hok, g11⟩
  refine condD (fun hlt => ?_) fun hge => ?_
  · have hkl : k < b.length := by omega
    refine locR sb (g1.trans g11) rfl hkl rfl fun w17 u g17 s17 hu hc => ⟨_, ((hQ.grow g11).grow g17).cell (j := 1) rfl, ?_⟩
    have g017 := (g1.trans g11).trans g17
    obtain ⟨ua, un, uc, ue, ul, uh, um, ub, hv'⟩ := SlX.upto (sb.gr g017) (ik := .i64) (K := fun x => SlA w17 x (b.take k)) rfl (Nat.le_of_lt hkl) fun v' hv' => hv'
    refine ⟨ua, un, uc, ue, ul, uh, um, ub, ?_⟩
    refine (containsAtom_c (p := fun a => decide (a.1 = b[k].1)) hv' ⟨133, #[], _, rfl, rfl, fun a ha w' u' g hu' => ?_⟩).mono ?_
    · rw [app1]
      exact plain1_c (g.cell (hc.cell (j := 0) rfl))
    · rintro e w26 ⟨rfl, g26⟩
      refine ⟨_, rfl, condP_i (fun hb => ⟨?_, g017.trans g26⟩) fun hb => ⟨by unfold inR; omega, ⟨k + 1, by omega, by omega, ?_, (g11.trans g17).trans g26⟩, by first | omega | (dsimp only; omega)⟩⟩
      · rw [plnB_bad (k := k + 1) (by rw [plnB_succ hkl, hb]; simp)]
      · rw [plnB_succ hkl, hok, hb]
        rfl
  · have hkl : k = b.length := by omega
    subst hkl
    rw [List.take_length] at hok
    exact ⟨by rw [hok], g1.trans g11⟩
/-! ## Why the attacks can't be found -/
/-- Every atom has its key. -/
def keyB (s : List Int) (b : List Atm) : Bool := b.all fun a => decide (klS s a.1 ≤ a.2.length)
def askN (s h : List Int) (b : List Atm) : Int := if okS s && okQ h b && keyB s b then (if plnB b then 0 else 7) else 2
theorem askN_ok {s h : List Int} {b : List Atm} (h0 : askN s h b = 0) : okS s = true ∧ okQ h b = true ∧ keyB s b = true ∧ plnB b = true := by
  unfold askN at h0
  split at h0
  · rename_i hc
    simp only [Bool.and_eq_true] at hc
    split at h0
    · rename_i hp
      exact ⟨hc.1.1, hc.1.2, hc.2, hp⟩
    · cases h0
  · cases h0
theorem okQ_all {h : List Int} {b : List Atm} (ok : okQ h b = true) : ∀ a ∈ b, okA a = true := fun a ha => by
  simp only [okQ, Bool.and_eq_true, List.all_eq_true] at ok
  exact ok.1.2 a ha
theorem askedN_c {w : World} {sv hv bv : Value} {s h : List Int} {b : List Atm} (hs : SlI w sv s) (hh : SlI w hv h) (hb : SlA w bv b) : Calls Tryz.prog 68 #[sv, .agg #[hv, bv]] w (Ret w (.int .i64 (askN s h b))) := by
  refine f68_calls _ _ ⟨_, rfl, fun w1 hw1 => ?_⟩
  have g1 := alloc_grow hw1
  have hQ := RecV.new hw1
  have no : ∀ {w'}, Grow w1 w' → (okS s && okQ h b && keyB s b) = false → Ret w (.int .i64 (askN s h b)) (.returned (.int .i64 2)) w' := fun g hn => ⟨by rw [askN, hn]; rfl, g1.trans g⟩
  refine hs.ln (condP_i (fun h6 => no (Grow.refl _) ?_) fun h6 => ?_)
  · have h6 : ¬ s.length = 6 := by simp at h6; omega
    rw [okS, decide_eq_false h6]; simp
  have h6 : s.length = 6 := by simp at h6; omega
  refine (minI_c (hs.grow g1) (by omega)).mono ?_
  rintro e w6 ⟨mn, rfl, hmn, hmin, g6⟩
  refine ⟨_, rfl, condD (fun h9 => no g6 ?_) fun h9 => ?_⟩
  · have : s.all (fun x => decide (0 ≤ x) && decide (x ≤ 3)) = false := by
      rw [← Bool.not_eq_true, List.all_eq_true]
      intro h2
      have := h2 mn hmn
      simp at this
      omega
    rw [okS, this]; simp
  refine (maxI_c (hs.grow (g1.trans g6)) (by omega)).mono ?_
  rintro e w9 ⟨mx, rfl, hmx, hmax, g9⟩
  have g19 := g6.trans g9
  have g09 := g1.trans g19
  refine ⟨_, rfl, condD (fun h => no g19 ?_) fun h3 => ?_⟩
  · have : s.all (fun x => decide (0 ≤ x) && decide (x ≤ 3)) = false := by
      rw [← Bool.not_eq_true, List.all_eq_true]
      intro h2
      have := h2 mx hmx
      simp at this
      omega
    rw [okS, this]; simp
  have hS : okS s = true := by
    rw [okS, decide_eq_true h6, Bool.true_and, List.all_eq_true]
    intro x hx
    have := hmin x hx
    have := hmax x hx
    simp
    omega
  refine ⟨[_, _], rfl, (hQ.grow g19).all, (rest_c (hh.grow g09) (hb.gr g09)).mono ?_⟩
  rintro e w13 ⟨hr, g13⟩
  have g113 := g19.trans g13
  have g013 := g1.trans g113
  rcases hr with ⟨hq, rfl⟩ | ⟨hq, l2, p2, rfl, -, -⟩
  · exact ⟨_, _, rfl, cT rfl (no g113 (by rw [hq]; simp))⟩
  refine ⟨_, _, rfl, cF rfl ⟨_, (hQ.grow g113).cell (j := 1) rfl, SlX.ln (hb.gr g013) ?_⟩⟩
  have oa := okQ_all hq
  refine ⟨fun t w' => ∃ k : Nat, t = k ∧ k ≤ b.length ∧ keyB s (b.take k) = true ∧ Grow w1 w', fun t _ => b.length - t.toNat, ⟨0, rfl, by omega, rfl, g113⟩, ?_⟩
  rintro - t w25 ⟨k, rfl, hk, hok, g25⟩
  have hle := SlX.len_le hb
  refine condD (fun hlt => ?_) fun hge => ?_
  · have hkl : k < b.length := by omega
    refine locR hb (g1.trans g25) rfl hkl rfl fun w31 u g31 s31 hu hc => ?_
    have g131 := g25.trans g31
    have oA := okA_iff.1 (oa _ (List.getElem_mem hkl))
    obtain ⟨hi, e, h3⟩ := okS_get hS oA.1 oA.2.1
    refine ⟨_, hc.cell (j := 1) rfl, hu.ln ⟨_, hc.cell (j := 0) rfl, (hs.grow (g1.trans g131)).rd (by omega) hi fun d => ?_⟩⟩
    have gd : Grow w31 (dr w31 d.1) := (Grow.refl w31).dr d.1
    rw [e]
    refine condD (fun hlt2 => no (g131.trans gd) ?_) fun hge2 => ⟨by unfold inR; omega, ⟨k + 1, by omega, by omega, ?_, g131.trans gd⟩, by first | omega | (dsimp only; omega)⟩
    · have : keyB s b = false := by
        rw [← Bool.not_eq_true, keyB, List.all_eq_true]
        intro h2
        have := h2 _ (List.getElem_mem hkl)
        rw [decide_eq_true_eq] at this
        omega
      rw [this, Bool.and_false]
    · rw [keyB, List.take_succ_eq_append_getElem hkl, List.all_append, Bool.and_eq_true]
      exact ⟨hok, by simp; omega⟩
  · have hkl : k = b.length := by omega
    subst hkl
    rw [List.take_length] at hok
    refine ⟨[_, _], rfl, (hQ.grow g25).all, (plain_c (hb.gr (g1.trans g25))).mono ?_⟩
    rintro e w44 ⟨rfl, g44⟩
    have hc : (okS s && okQ h b && keyB s b) = true := by rw [hS, hq, hok]; rfl
    refine ⟨_, rfl, condP_i (fun hp => ⟨?_, (g1.trans g25).trans g44⟩) fun hp => ⟨?_, (g1.trans g25).trans g44⟩⟩
    · have hp : plnB b = false := by simpa using hp
      rw [askN, hc, hp]; rfl
    · have hp : plnB b = true := by simpa using hp
      rw [askN, hc, hp]; rfl
end Go.Proofs.YtmjpnfapjcfejaaGreatDoor

/- Contracts: closures of sets, by the program: lists of dependencies, copied, one left out. No condition. -/
namespace Go.Proofs.YtmjpnfapjcfejaaGreatDoor
open Go Go.RowKit VC
set_option linter.unusedSimpArgs false
set_option linter.unusedVariables false

/-- The array behind an own slice is written behind the slice's end. -/
theorem VC.Own.wipe {P : Program} {w : World} {B : Nat} {e : TypeId} {sz g n cap o : Nat} {cs vs : List Value} (h : Own w B e sz (.slice (some ⟨g, 0, none⟩) n cap) n cs) (ho : n * sz ≤ o) (ho2 : o + vs.length ≤ cap * sz) (h1 : ∀ u ∈ vs, u.oneCell' = true) :
    ∃ w', (storeCells ⟨g, o, none⟩ vs).run P w = .ok () w' ∧ Fr (fun k => k = g) w w' ∧ Own w' B e sz (.slice (some ⟨g, 0, none⟩) n cap) n cs := by
  rcases h.2 with ⟨h2, _⟩ | ⟨g', cap', cur, he, hb, hgg, hnc, hcm, hcs, htake⟩
  · cases h2
  · simp only [Value.slice.injEq, Option.some.injEq, Addr.mk.injEq, and_true, true_and] at he
    obtain ⟨rfl, rfl⟩ := he
    have hr := run_storeCells_at P g o e vs 0 cur w hgg (by omega) h1
    simp only [Nat.add_zero] at hr
    have hl : (cur.toList.take o ++ vs ++ cur.toList.drop (o + vs.length)).length = cur.size := by simp; omega
    refine ⟨_, hr, ⟨rfl, rfl, rfl, by simp [World.setRow], fun k _ hk => setRow_other w g k _ hk⟩, h.1, .inr ⟨g, cap, _, rfl, hb, setRow_heap w g cur _ e _ hgg, hnc, hcm, by simpa using hl.trans hcs, ?_⟩⟩
    rw [List.toList_toArray, List.append_assoc, List.take_append_of_le_length (by simp; omega), List.take_take, Nat.min_eq_left ho, htake]
/-! ## Lists of dependencies -/
theorem el_dep : ElT Tryz.prog 133 135 2 16 (.agg #[.int .i64 0, .int .i64 0]) := ⟨by kernel_rfl, ⟨Tryz.t135, by kernel_rfl, by kernel_rfl, by kernel_rfl, by kernel_rfl⟩, rfl⟩
def encD (l : List (Nat × Nat)) : List (Int × Int) := l.map fun d => ((d.1 : Int), (d.2 : Int))
theorem encD_len (l : List (Nat × Nat)) : (encD l).length = l.length := by simp [encD]
theorem encD_get {l : List (Nat × Nat)} {i : Nat} (h : i < l.length) : (encD l)[i]'(by rw [encD_len]; exact h) = ((l[i].1 : Int), (l[i].2 : Int)) := by simp [encD]
abbrev SlD (w : World) (v : Value) (l : List (Nat × Nat)) : Prop := SlR spF w v (encD l)
abbrev OwnD (w : World) (B : Nat) (v : Value) (l : List (Nat × Nat)) : Prop := Own w B 135 2 v l.length ((encD l).flatMap spF)
theorem OwnD.sl {w : World} {B : Nat} {v : Value} {l : List (Nat × Nat)} (h : OwnD w B v l) : SlD w v l := by
  have := Own.slC h
  unfold SlD SlR
  rw [encD_len]
  exact this
/-- A dependency is read into a variable of its own. -/
theorem locD {P : Program} {w0 w : World} {v : Value} {l : List (Nat × Nat)} (h : SlD w0 v l) (g : Grow w0 w) {i : Nat} {j : Int} (hj : j = (i : Int)) (hi : i < l.length) {zs : Array Value} (hz : zs.size = 2) {t : TypeId} {K : World → Prop}
    (hk : ∀ w2, Grow w w2 → w.heap.size < w2.heap.size → RecV w2 w.heap.size [.int .i64 (l[i].1 : Int), .int .i64 (l[i].2 : Int)] → K w2) :
    ∃ (a : Addr) (m c : Nat), v = .slice (some a) m c ∧ ((0 : Int) ≤ j ∧ j < (m : Int)) ∧ ∃ cs : List Value, cs.length = 2 ∧ (∀ t u, cs[t]? = some u → w.cell? (Addr.add (a.add (Int.toNat j * 2)) t) = some u) ∧
      ∀ w1, w1 = w.alloc (.cells zs t) → ∃ cs' : Array Value, (Value.agg cs.toArray) = Value.agg cs' ∧ cs'.size = 2 ∧ ∃ w2 : World, (storeCells ⟨w.heap.size, 0, none⟩ cs'.toList).run P w1 = .ok () w2 ∧ K w2 := by
  refine SlR.rd (SlR.grow h g) spF_len hj (by rw [encD_len]; exact hi) ?_
  intro w1 hw1
  rw [encD_get hi]
  have := RecV.init (P := P) (cs := spF ((l[i].1 : Int), (l[i].2 : Int))) hw1 (by rw [hz]; rfl) (spF_one _) (K := K) fun w2 hg hs hc => hk w2 hg hs hc
  rw [hz] at this
  exact this
/-! ## Sets of attributes -/
def smallD (l : List (Nat × Nat)) : Prop := ∀ d ∈ l, d.1 < 256 ∧ d.2 < 256
theorem sets1_c {w : World} {x : Int} {p : Addr} (hc : w.cell? p = some (.int .i64 8)) : Calls Tryz.prog 167 #[.int .i64 x, .pointer (some p)] w (Ret w (.bool (decide (x < 0) || decide (256 ≤ x)))) := by
  refine f167_calls _ _ (condD (fun h => ⟨by rw [decide_eq_true h]; rfl, Grow.refl _⟩) fun h => ⟨8, hc, by omega, ?_, Grow.refl _⟩)
  have e : iShl .i64 1 8 = 256 := by decide +kernel
  rw [e, decide_eq_false h, Bool.false_or]
theorem sets_c {w : World} {v : Value} {xs : List Int} (hs : SlI w v xs) (hx : ∀ x ∈ xs, 0 ≤ x ∧ x < 256) : Calls Tryz.prog 136 #[.int .i64 8, v] w (Ret w (.bool true)) := by
  refine f136_calls _ _ fun w1 hw1 => ?_
  have g1 := alloc_grow hw1
  refine (containsFunc_c (p := fun x => decide (x < 0) || decide (256 ≤ x)) (hs.grow g1) ⟨167, #[], _, rfl, rfl, fun x _ w' g => ?_⟩).mono ?_
  · rw [app1]
    exact sets1_c (g.cell (alloc_cell0 hw1))
  · rintro e w2 ⟨rfl, g2⟩
    have : xs.any (fun x => decide (x < 0) || decide (256 ≤ x)) = false := by
      rw [List.any_eq_false]
      intro x h
      have := hx x h
      simp
      omega
    rw [this]
    exact ⟨_, rfl, rfl, g1.trans g2⟩
theorem validD1_c {w : World} {d : Nat × Nat} {p : Addr} (hc : w.cell? p = some (.int .i64 8)) (h1 : d.1 < 256) (h2 : d.2 < 256) : Calls Tryz.prog 166 #[.agg (spF ((d.1 : Int), (d.2 : Int))).toArray, .pointer (some p)] w (Ret w (.bool false)) := by
  refine f166_calls _ _ ⟨_, rfl, fun w1 hw1 => ?_⟩
  have g1 := alloc_grow hw1
  refine ⟨_, g1.cell hc, _, boxc hw1 0 _ rfl, _, boxc hw1 1 _ rfl, fun w6 hw6 => ?_⟩
  have g6 := alloc_grow hw6
  have hs := slI_lit (xs := [(d.1 : Int), (d.2 : Int)]) hw6 rfl (by simp)
  refine (sets_c hs (by
    intro x hx
    simp at hx
    rcases hx with rfl | rfl <;> omega)).mono ?_
  rintro e w7 ⟨rfl, g7⟩
  exact ⟨_, rfl, rfl, (g1.trans g6).trans g7⟩
theorem indexD_no {w : World} {v : Value} {l : List (Nat × Nat)} {g : FuncId} {fst cap : Array Value} (hs : SlD w v l) (hg : callOK g = true) (hf : ∀ d ∈ l, ∀ w', Grow w w' → Calls Tryz.prog g (fst ++ #[.agg (spF ((d.1 : Int), (d.2 : Int))).toArray] ++ cap) w' (Ret w' (.bool false))) :
    Calls Tryz.prog 178 #[v, .func (.func g) fst cap] w (Ret w (.int .i64 (-1))) := by
  refine f178_calls _ _ ?_
  have hle := SlR.len_le hs
  rw [encD_len] at hle
  refine SlR.ln hs ?_
  rw [encD_len]
  refine ⟨fun t w' => ∃ k : Nat, t = k ∧ k ≤ l.length ∧ Grow w w', fun t _ => l.length - t.toNat, ⟨0, rfl, by omega, Grow.refl w⟩, ?_⟩
  rintro - t w1 ⟨k, rfl, hk, hw⟩
  refine condD (fun hlt => ?_) (fun hge => ⟨rfl, hw⟩)
  have hkl : k < l.length := by omega
  refine SlR.rd (SlR.grow hs hw) spF_len rfl (by rw [encD_len]; exact hkl) ?_
  rw [encD_get hkl]
  refine ⟨g, fst, cap, rfl, hg, (hf _ (List.getElem_mem hkl) w1 hw).mono ?_⟩
  rintro e w2 ⟨rfl, g2⟩
  exact ⟨_, rfl, cF rfl ⟨by unfold inR; omega, ⟨k + 1, by omega, by omega, hw.trans g2⟩, by first | omega | (dsimp only; omega)⟩⟩
theorem validD_c {w : World} {v : Value} {l : List (Nat × Nat)} (hs : SlD w v l) (h12 : l.length ≤ 12) (hsm : smallD l) : Calls Tryz.prog 135 #[.int .i64 8, v] w (Ret w (.bool true)) := by
  refine f135_calls _ _ fun w1 hw1 => ?_
  have g1 := alloc_grow hw1
  have c0 : w1.cell? ⟨w.heap.size, 0, none⟩ = some (.int .i64 8) := alloc_cell0 hw1
  have hs1 := SlR.grow hs g1
  refine ⟨8, c0, cF rfl ⟨8, c0, cF rfl (SlR.ln hs1 (cF (decide_eq_false (by rw [encD_len]; omega)) ?_))⟩⟩
  refine f165_calls _ _ ((indexD_no hs1 rfl fun d hd w' g => ?_).mono ?_)
  · rw [app1]
    exact validD1_c (g.cell c0) (hsm d hd).1 (hsm d hd).2
  · rintro e w3 ⟨rfl, g3⟩
    exact ⟨_, rfl, _, rfl, rfl, g1.trans g3⟩
/-! ## Closures -/
theorem closure1_c {w : World} {v : Value} {l : List (Nat × Nat)} {a : Nat} {p : Addr} (hc : w.cell? p = some v) (hs : SlD w v l) (hsm : smallD l) (ha : a < 256) : Calls Tryz.prog 168 #[.int .i64 (a : Int), .pointer (some p)] w (Ret w (.int .i64 (clF l a : Nat))) := by
  refine f168_calls _ _ ?_
  have hcl := clF_is l a
  have hle := SlR.len_le hs
  rw [encD_len] at hle
  refine ⟨fun set again w' => ∃ c : Nat, set = c ∧ c < 256 ∧ bs a c ∧ bs c (clF l a) ∧ (again = false → ∀ d ∈ l, bs d.1 c → bs d.2 c) ∧ Grow w w', fun set again _ => (if again then 1 else 0) + (256 - set.toNat), ⟨a, rfl, ha, bs_refl _, hcl.sub, (fun h => by cases h), Grow.refl _⟩, ?_⟩
  rintro - set again w6 ⟨c, rfl, hc256, hac, hca, hdone, g6⟩
  refine condP_i (fun hag => ⟨v, g6.cell hc, ?_⟩) fun hag => ⟨?_, g6⟩
  · subst hag
    refine SlR.ln (SlR.grow hs g6) ?_
    rw [encD_len]
    refine ⟨fun set again t w' => ∃ (k c' : Nat), t = k ∧ k ≤ l.length ∧ set = c' ∧ c' < 256 ∧ bs c c' ∧ bs c' (clF l a) ∧ (again = true → c < c') ∧ (again = false → c' = c ∧ ∀ d ∈ l.take k, bs d.1 c → bs d.2 c) ∧ Grow w w', fun _ _ t _ => l.length - t.toNat, ⟨0, c, rfl, by omega, rfl, hc256, bs_refl _, hca, (fun h => by cases h), (fun _ => ⟨rfl, fun d hd => by cases hd⟩), g6⟩, ?_⟩
    rintro - set again t w17 ⟨k, c', rfl, hk, rfl, hc', hcc, hcl', hgt, hsame, g17⟩
    refine condD (fun hlt => ?_) fun hge => ?_
    · have hkl : k < l.length := by omega
      have hd := hsm _ (List.getElem_mem hkl)
      refine locD hs g17 rfl hkl rfl fun w23 g23 s23 hr => ⟨_, hr.cell (j := 0) rfl, ?_⟩
      have g023 := g17.trans g23
      have stay : ¬ (bs l[k].1 c' ∧ ¬ bs l[k].2 c') → inR ((k : Int) + 1) ∧ ((∃ (k' c2 : Nat), (k : Int) + 1 = k' ∧ k' ≤ l.length ∧ (c' : Int) = c2 ∧ c2 < 256 ∧ bs c c2 ∧ bs c2 (clF l a) ∧ (again = true → c < c2) ∧ (again = false → c2 = c ∧ ∀ d ∈ l.take k', bs d.1 c → bs d.2 c) ∧ Grow w w23) ∧ l.length - Int.toNat ((k : Int) + 1) < l.length - Int.toNat (k : Int)) := fun hn => by
        refine ⟨by unfold inR; omega, ⟨k + 1, c', by omega, by omega, rfl, hc', hcc, hcl', hgt, fun hf => ?_, g023⟩, by first | omega | (dsimp only; omega)⟩
        obtain ⟨e, h2⟩ := hsame hf
        refine ⟨e, fun d hd => ?_⟩
        rw [List.take_succ_eq_append_getElem hkl] at hd
        rcases List.mem_append.1 hd with hd | hd
        · exact h2 d hd
        · have : d = l[k] := by simpa using hd
          subst this
          rw [e] at hn
          intro h1
          exact Classical.byContradiction fun h3 => hn ⟨h1, h3⟩
      refine condD (fun h0 => ⟨_, hr.cell (j := 1) rfl, condP_i (fun h1 => ⟨_, hr.cell (j := 1) rfl, ?_⟩) fun h1 => stay ?_⟩) fun h0 => stay ?_
      · have h0 := sub_bits.1 ((andNot_zero hd.1 hc').1 h0)
        have h1 : ¬ bs l[k].2 c' := fun h => by
          have := (andNot_zero hd.2 hc').2 (sub_bits.2 h)
          rw [decide_eq_true this] at h1
          cases h1
        have hor : c' ||| l[k].2 < 256 := Nat.or_lt_two_pow (n := 8) hc' hd.2
        have hlt2 : c' < c' ||| l[k].2 := by
          have h2 := Nat.left_le_or (n := c') (m := l[k].2)
          rcases Nat.lt_or_ge c' (c' ||| l[k].2) with h3 | h3
          · exact h3
          · exfalso
            have e : c' ||| l[k].2 = c' := by omega
            exact h1 (e ▸ bs_right c' l[k].2)
        have hle2 : c ≤ c' := by
          have e : c ||| c' = c' := bs_antisymm (bs_or.2 ⟨hcc, bs_refl _⟩) (bs_right _ _)
          rw [← e]
          exact Nat.left_le_or
        refine ⟨by unfold inR; omega, ⟨k + 1, c' ||| l[k].2, by omega, by omega, ?_, hor, hcc.trans (bs_left _ _), bs_or.2 ⟨hcl', ?_⟩, fun _ => by omega, (fun h => by cases h), g023⟩, by first | omega | (dsimp only; omega)⟩
        · rw [iOr_nat (by omega) (by omega)]
        · exact hcl.cl _ (List.getElem_mem hkl) (fun x hx => hcl' x (h0 x hx))
      · have h1 : iAndNot .i64 (l[k].2 : Int) (c' : Int) = 0 := by simpa using h1
        exact fun h => h.2 (sub_bits.1 ((andNot_zero hd.2 hc').1 h1))
      · exact fun h => h0 ((andNot_zero hd.1 hc').2 (sub_bits.2 h.1))
    · have hkl : k = l.length := by omega
      subst hkl
      refine ⟨⟨c', rfl, hc', hac.trans hcc, hcl', fun hf d hd => ?_, g17⟩, ?_⟩
      · obtain ⟨e, h2⟩ := hsame hf
        rw [List.take_length] at h2
        rw [e]
        exact h2 d hd
      · dsimp only
        rw [Int.toNat_natCast, Int.toNat_natCast]
        cases again with
        | true =>
          have := hgt rfl
          simp only [if_true]
          omega
        | false =>
          obtain ⟨e, -⟩ := hsame rfl
          subst e
          simp
  · subst hag
    have : c = clF l a := bs_antisymm hca (hcl.min c hac (hdone rfl))
    rw [this]
theorem ClosureD_c {w : World} {v : Value} {l : List (Nat × Nat)} {a : Nat} (hs : SlD w v l) (h12 : l.length ≤ 12) (hsm : smallD l) (ha : a < 256) : Calls Tryz.prog 102 #[.int .i64 8, v, .int .i64 (a : Int)] w (Ret w (.tuple #[.int .i64 (clF l a : Nat), .int .i64 0])) := by
  refine f102_calls _ _ _ ((validD_c hs h12 hsm).mono ?_)
  rintro e w1 ⟨rfl, g1⟩
  refine ⟨_, rfl, cF rfl fun w4 hw4 => ?_⟩
  have g4 := alloc_grow hw4
  have hl := slI_lit (xs := [(a : Int)]) hw4 rfl (by simp)
  refine (sets_c hl (by
    intro x hx
    simp at hx
    omega)).mono ?_
  rintro e w5 ⟨rfl, g5⟩
  have g05 := (g1.trans g4).trans g5
  refine ⟨_, rfl, cF rfl (f137_calls _ ⟨SlR.one hs, fun w6 hw6 => ⟨_, rfl, 168, #[], #[.pointer (some ⟨w5.heap.size, 0, none⟩)], rfl, rfl, ?_⟩⟩)⟩
  have g6 := alloc_grow hw6
  rw [app1]
  refine (closure1_c (alloc_cell0 hw6) (SlR.grow hs (g05.trans g6)) hsm ha).mono ?_
  rintro e w11 ⟨rfl, g11⟩
  exact ⟨_, rfl, rfl, (g05.trans g6).trans g11⟩
/-! ## A copy, and one left out -/
theorem cloneD_c {w : World} {v : Value} {l : List (Nat × Nat)} (hs : SlD w v l) (hlen : l.length ≤ 1000000) : Calls Tryz.prog 101 #[v] w fun e w' => ∃ v', e = .returned v' ∧ OwnD w' w.heap.size v' l ∧ Grow w w' := by
  refine f101_calls _ ?_
  obtain ⟨a, c, rfl, h1, h2, h3, h4⟩ := hs.ex
  refine ⟨a.isNone, nilEq (e := 135) (by kernel_rfl), condP_i (fun ha => ?_) (fun ha => ?_)⟩
  · have : a = none := by simpa using ha
    have hc := h3 this
    rw [encD_len] at h1
    have : l = [] := List.length_eq_zero_iff.1 (by omega)
    subst this
    exact ⟨_, rfl, Own.nil _ _ _ _, Grow.refl w⟩
  · refine bs0 el_dep w fun w1 hw1 => ?_
    have g1 := alloc_grow hw1
    have hl := Own.lit (B := w.heap.size) (n := 0) (sz := 2) hw1 (Nat.le_refl _) (by omega) (by simp)
    have hx : SlC w1 (.slice a (encD l).length c) l.length ((encD l).flatMap spF) := by
      have := SlC.grow hs g1
      rwa [encD_len] at this ⊢
    refine papp el_dep (by omega) hl hx (by rw [flat_len spF_len, encD_len]) (fun u hu => ?_) (by rw [alloc_size hw1]; omega) (by omega) (by omega) ?_
    · obtain ⟨p, _, hu⟩ := List.mem_flatMap.1 hu
      exact spF_one p u hu
    · intro v' w' ho hf hn
      refine ⟨v', rfl, by simpa [OwnD] using ho, g1.fr hf fun i hi e => ?_⟩
      simp [Value.ownBlock] at e
      omega
theorem deleteD_c {w : World} {B : Nat} {v : Value} {l : List (Nat × Nat)} {i : Nat} (ho : OwnD w B v l) (hi : i < l.length) (hlen : l.length ≤ 1000000) : Calls Tryz.prog 100 #[v, .int .i64 (i : Int), .int .i64 ((i : Int) + 1)] w fun e w' => ∃ v', e = .returned v' ∧ OwnD w' B v' (l.eraseIdx i) ∧ FrO v w w' := by
  refine f100_calls _ _ _ ?_
  have hv : ∃ g cap, v = .slice (some ⟨g, 0, none⟩) l.length cap ∧ l.length ≤ cap := by
    rcases ho.2 with ⟨_, h0⟩ | ⟨g, cap, cur, rfl, hb, hgg, hnc, _⟩
    · omega
    · exact ⟨g, cap, rfl, hnc⟩
  obtain ⟨g, cap, rfl, hcap⟩ := hv
  have z1 : (i : Int) + 1 = ((i + 1 : Nat) : Int) := by omega
  refine ⟨_, _, _, rfl, _, _, _, rfl, i, i + 1, l.length, ⟨rfl, z1 ▸ rfl, rfl, by simp, by omega, by omega, by first | omega | (dsimp only; omega)⟩, cF (decide_eq_false (by omega)) ⟨_, _, _, rfl, fun d => ⟨_, _, _, rfl, 0, i, cap, ⟨rfl, rfl, rfl, by simp, by omega, by omega, by first | omega | (dsimp only; omega)⟩, _, _, _, rfl, i + 1, l.length, cap, ⟨z1 ▸ rfl, rfl, rfl, by simp, by omega, by omega, by first | omega | (dsimp only; omega)⟩, ?_⟩⟩⟩
  have gd : Grow w (dr w d.1) := (Grow.refl w).dr d.1
  have hod := Own.grow ho gd
  have hne : ¬ cap = 0 := by omega
  rw [if_neg hne]
  have hcut := Own.cut hod (k := i) (by omega)
  rw [← flat_take (fun x _ => spF_len x)] at hcut
  have elen : (encD l).length = l.length := encD_len l
  have e0 : (Option.map (fun x => Addr.add x (0 * 2)) (some (⟨g, 0, none⟩ : Addr))) = some ⟨g, 0, none⟩ := by simp [Addr.add0]
  rw [e0]
  have ed : (l.eraseIdx i) = l.take i ++ l.drop (i + 1) := List.eraseIdx_eq_take_drop_succ l i
  have eD : encD (l.eraseIdx i) = (encD l).take i ++ (encD l).drop (i + 1) := by
    rw [ed]; simp [encD]
  have el : (l.eraseIdx i).length = l.length - 1 := by rw [List.length_eraseIdx, if_pos hi]
  have hcells := World.ownsRow.cells (g := g) hod rfl
  have hnews : ∀ (x : Addr), (cap = i + 1 ∨ x = Addr.add ⟨g, 0, none⟩ ((i + 1) * 2)) → ∀ j u, (((encD l).drop (i + 1)).flatMap spF)[j]? = some u → (dr w d.1).cell? (x.add j) = some u := fun x hx j u hj => by
    rw [flat_drop (fun x _ => spF_len x), List.getElem?_drop] at hj
    rcases hx with hx | rfl
    · have := (List.getElem?_eq_some_iff.1 hj).1
      rw [flat_len spF_len, elen] at this
      omega
    · rw [add_add]
      exact hcells _ _ hj
  obtain ⟨inf, hi2, hz, hsize, hby⟩ := (el_dep).info
  obtain ⟨x, ex, hx⟩ : ∃ x : Addr, (if cap = i + 1 then some (⟨g, 0, none⟩ : Addr) else (some (⟨g, 0, none⟩ : Addr)).map (·.add ((i + 1) * 2))) = some x ∧ (cap = i + 1 ∨ x = Addr.add ⟨g, 0, none⟩ ((i + 1) * 2)) := by
    by_cases hc : cap = i + 1
    · exact ⟨_, if_pos hc, .inl hc⟩
    · exact ⟨_, by rw [if_neg hc]; rfl, .inr rfl⟩
  rw [ex]
  obtain ⟨w27, hrun, hown, hgr⟩ := run_append_fits (P := Tryz.prog) (dr w d.1) B 133 133 135 inf 2 el_dep.und hi2 hsize g i cap _ hcut x (l.length - (i + 1)) (cap - (i + 1)) (((encD l).drop (i + 1)).flatMap spF) (by rw [flat_len spF_len, List.length_drop, elen]) (hnews x hx) (fun u hu => by
    obtain ⟨p, _, hu⟩ := List.mem_flatMap.1 hu
    exact spF_one p u hu) (by omega)
  have hn1 : i + (l.length - (i + 1)) = l.length - 1 := by omega
  rw [hn1] at hrun hown
  rw [← List.flatMap_append, ← eD] at hown
  refine ⟨_, w27, hrun, _, _, _, rfl, _, _, _, rfl, l.length - 1, l.length, cap, ⟨by rfl, rfl, rfl, by simp, by omega, by omega, by first | omega | (dsimp only; omega)⟩, ?_⟩
  have hn2 : ¬ cap = l.length - 1 := by omega
  rw [if_neg hn2]
  have hzl : (Builtin.zeroCells (Value.agg #[.int .i64 0, .int .i64 0]).cells (l.length - (l.length - 1))).toList.length = 2 := by
    rw [Array.length_toList, size_zeroCells]
    have : l.length - (l.length - 1) = 1 := by omega
    rw [this]
    rfl
  obtain ⟨w37, hr37, hf37, ho37⟩ := VC.Own.wipe (P := Tryz.prog) (o := (l.length - 1) * 2) (vs := (Builtin.zeroCells (Value.agg #[.int .i64 0, .int .i64 0]).cells (l.length - (l.length - 1))).toList) hown (Nat.le_refl _) (by rw [hzl]; omega) (zeroCells_mem (by decide) (by
    intro u hu
    simp [Value.cells] at hu
    rcases hu with rfl | rfl <;> rfl))
  refine ⟨w37, ?_, _, rfl, ?_, ?_⟩
  · refine clear_run el_dep (by omega) ?_
    show (storeCells (Addr.add ⟨g, 0, none⟩ ((l.length - 1) * 2)) _).run _ _ = _
    rw [Addr.add0]; exact hr37
  · unfold OwnD
    rw [el]
    exact ho37
  · exact ((Fr.of_grow gd).trans (Fr.of_grown hgr)).trans (hf37.mono fun b _ e => by rw [e])
end Go.Proofs.YtmjpnfapjcfejaaGreatDoor
