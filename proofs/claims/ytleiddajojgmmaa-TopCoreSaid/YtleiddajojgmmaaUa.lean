/- Contract: the deletion of ears, by the program (ears). No condition. -/
import Derived.Test.YtleiddajojgmmaaTf
import Derived.Test.YtleiddajojgmmaaMr
namespace Go.Proofs.Ytleiddajojgmmaa
open Go Go.RowKit VC
set_option linter.unusedSimpArgs false
set_option linter.unusedVariables false

def varsOf (b : List Atm) : List Nat := b.map fun a => varsL a.2
theorem bit_oneT {s i : Nat} (h : i < 63) : (iAnd .i64 (iShr .i64 (s : Int) (i : Int)) 1 = 1) ↔ s.testBit i = true := by
  rw [iBit _ (by omega), ibit_nat]
  cases s.testBit i <;> simp
theorem ears_c {w : World} {hv bv : Value} {b : List Atm} (sb : SlA w bv b) (ob : ∀ a ∈ b, okA a = true) (h1 : 1 ≤ b.length) (h5 : b.length ≤ 5) :
    Calls Try.prog 40 #[.agg #[hv, bv]] w fun e w' => ∃ pv l2 p2, e = .returned (.tuple #[.int .i64 ((if pc l2 = 1 then 0 else l2 : Nat) : Int), pv]) ∧ EarsR b.length (2 ^ b.length - 1) (varsOf b) (List.replicate b.length (-1)) l2 p2 ∧ l2 < 2 ^ b.length ∧ p2.length = b.length ∧ SlI w' pv p2 ∧ Grow w w' := by
  refine f40_calls _ ?_
  refine ⟨_, rfl, fun w1 hw1 => ?_⟩
  have g1 := alloc_grow hw1
  have s1 := alloc_size hw1
  have p1 := boxc hw1 1 bv rfl
  have bT : ∀ a ∈ b, ∀ x ∈ a.2, -9 ≤ x ∧ x ≤ 7 := fun a ha => (okA_iff.1 (ob a ha)).2.2.2.2
  refine ⟨_, p1, SlX.ln (sb.gr g1) ?_⟩
  obtain ⟨n, hn⟩ : ∃ n, n = b.length := ⟨_, rfl⟩
  rw [← hn] at h1 h5 ⊢
  refine ⟨⟨by omega, by omega, by omega, by omega⟩, fun w7 hw7 w8 hw8 => ?_⟩
  rw [Int.toNat_natCast] at hw7 ⊢
  have g7 := alloc_grow hw7
  have s7 := alloc_size hw7
  have g8 := alloc_grow hw8
  have s8 := alloc_size hw8
  obtain ⟨A, hA⟩ : ∃ A, A = w1.heap.size := ⟨_, rfl⟩
  have hmade : Arr w7 A n (List.replicate n 0) := by
    have := Own.made hw7 (n := n) (by omega) (Nat.le_refl _) (by omega)
    rw [hA]
    have e : (List.replicate n (0 : Int)).map VC.encI = List.replicate n (Value.int .i64 0) := by simp [VC.encI]
    show Own w7 w1.heap.size 3 1 (.slice (some ⟨w1.heap.size, 0, none⟩) n n) n ((List.replicate n (0 : Int)).map VC.encI)
    rw [e]
    exact this
  have hm1 := slI_lit (xs := [-1]) hw8 rfl (by simp)
  refine (repeat_c (n := n) (z := -1) hm1 h1 (by omega)).mono ?_
  rintro e w9 ⟨G, rfl, hG, g9⟩
  have hGl := Own.lt hG (k := G) rfl
  have hAG : A ≠ G := by omega
  have hG9 : Arr w9 G n (List.replicate n (-1)) := by
    have h9 : Own w9 w8.heap.size 3 1 (.slice (some ⟨G, 0, none⟩) n n) n ((List.replicate n (-1 : Int)).map VC.encI) := by
      have := hG
      unfold OwnI at this
      rwa [List.length_replicate] at this
    exact ownSelf h9
  rw [← hA]
  have g79 := g8.trans g9
  have g19 := g7.trans g79
  have g09 := g1.trans g19
  refine ⟨_, rfl, _, g19.cell p1, SlX.ln (sb.gr g09) ?_⟩
  rw [← hn]
  -- the sets of variables
  refine ⟨fun t w' => ∃ (k : Nat) (c : List Int), t = k ∧ k ≤ n ∧ c.length = n ∧ (∀ i, i < k → c.getD i 0 = (((varsOf b).getD i 0 : Nat) : Int)) ∧ Arr w' A n c ∧ Fr (fun i => i = A) w9 w', fun t _ => n - t.toNat, ⟨0, _, rfl, by omega, by simp, fun i hi => by omega, Own.grow hmade g79, Fr.refl _ _⟩, ?_⟩
  rintro - t w20 ⟨k, c, rfl, hk, hc, hval, hA20, hf20⟩
  have gw : ∀ {w'}, Fr (fun i => i = A) w9 w' → Grow w1 w' := fun hf => g19.fr hf fun i hi e => by omega
  have g120 := gw hf20
  refine condD (fun hlt => ?_) fun hge => ?_
  · have hkl : k < b.length := by omega
    refine SlX.loc (sb.gr (g1.trans g120)) rfl hkl rfl fun w26 u g26 s26 hu c0 c1 => ?_
    refine ⟨[_, _], rfl, two c0 c1, (atomVars_c hu (bT _ (List.getElem_mem hkl))).mono ?_⟩
    rintro e w29 ⟨rfl, g29⟩
    have g2629 := g26.trans g29
    have hA29 : Arr w29 A n c := Own.grow hA20 g2629
    have aX : Addr.add ⟨A, 0, none⟩ (Int.toNat (k : Int) * 1) = ⟨A, k, none⟩ := by rw [Int.toNat_natCast, Nat.mul_one, Addr.add0]
    have hkn : k < n := by omega
    refine ⟨_, rfl, _, _, _, rfl, ⟨by omega, by omega⟩, ?_⟩
    rw [aX]
    refine ⟨(Own.wr hA29 hkn).1, (Own.wr hA29 hkn).2, fun w35 hw35 => ⟨by unfold inR; omega, ⟨k + 1, c.set k ((varsL b[k].2 : Nat) : Int), by omega, by omega, by simpa using hc, fun i hi => ?_, hA29.put hkn hw35, (hf20.trans (Fr.of_grow g2629)).trans (set_fr hw35)⟩, by dsimp only; omega⟩⟩
    rw [getD_setI (by omega)]
    split
    · rename_i e
      subst e
      simp [varsOf, List.getD, hkl]
    · exact hval i (by omega)
  · have hkn : k = n := by omega
    subst hkn
    have hvl : (varsOf b).length = k := by simp [varsOf, hn]
    have ec : c = intN (varsOf b) := List.ext_getElem (by rw [intN_len, hvl, hc]) fun i a1 a2 => by
      have := hval i (by omega)
      have e1 : c.getD i 0 = c[i] := by simp [List.getD, a1]
      rw [intN_get (by rw [hvl]; omega), ← this, e1]
    rw [ec] at hA20
    have hv256 : ∀ j, (varsOf b).getD j 0 < 256 := fun j => by
      rcases Nat.lt_or_ge j b.length with hj | hj
      · simp only [varsOf, List.getD, List.getElem?_map, List.getElem?_eq_getElem hj, Option.map_some, Option.getD_some]
        exact varsL_lt (bT _ (List.getElem_mem hj))
      · simp [varsOf, List.getD, hj]
    rw [iShl_one (by omega)]
    have hP : 2 ^ k ≤ 2 ^ 5 := Nat.pow_le_pow_right (by omega) h5
    have hP1 : 1 ≤ 2 ^ k := Nat.one_le_two_pow
    have eL : (((2 ^ k : Nat) : Int) - 1) = ((2 ^ k - 1 : Nat) : Int) := by omega
    rw [eL]
    have hG20 : Arr w20 G k (List.replicate k (-1)) := Own.fr hG9 hf20 fun x hx e => by
      simp [Value.ownBlock] at hx
      omega
    refine ⟨by omega, by unfold inR; omega, fun left w' => ∃ l V p, EarW w20 A G k (varsOf b) w' left l V p, fun left _ => cnt k left.toNat, ⟨_, _, _, rfl, hA20, hG20, Fr.refl _ _, by omega, hvl, hv256, by simp, fun _ _ h => h⟩, ?_⟩
    rintro - left w40 ⟨l, V, p, E⟩
    obtain rfl := E.le
    have hAX : ∀ m : Nat, Addr.add ⟨A, 0, none⟩ (Int.toNat (m : Int) * 1) = ⟨A, m, none⟩ := fun m => by rw [Int.toNat_natCast, Nat.mul_one, Addr.add0]
    have hl64 : l < 64 := by have := E.ll; omega
    refine ⟨fun t w' => ∃ m : Nat, t = m ∧ m ≤ k ∧ Arr w' A k (intN (cutK k l V m)) ∧ Fr (fun i => i = A) w40 w', fun t _ => k - t.toNat, ⟨0, rfl, by omega, E.arr, Fr.refl _ _⟩, ?_⟩
    rintro - t w45 ⟨m, rfl, hm, hA45, hf45⟩
    have hcl := cutK_lt (left := l) E.lV E.bV m hm
    have hlen : (intN (cutK k l V m)).length = k := by rw [intN_len]; exact hcl.1
    refine condD (fun hlt => ?_) fun hge2 => ?_
    · have hmk : m < k := by omega
      refine ⟨fun oth t w' => ∃ j : Nat, t = j ∧ j ≤ k ∧ oth = ((othG l (cutK k l V m) m (List.range j) : Nat) : Int) ∧ w' = w45, fun _ t _ => k - t.toNat, ⟨0, rfl, by omega, rfl, rfl⟩, ?_⟩
      rintro - oth t w51 ⟨j, rfl, hj, rfl, rfl⟩
      have sl := hA45.sl hlen
      refine condD (fun hlt2 => ?_) fun hge3 => ?_
      · have hjk : j < k := by omega
        have step : ∀ {o : Int}, o = ((othG l (cutK k l V m) m (List.range (j + 1)) : Nat) : Int) → inR ((j : Int) + 1) ∧ ((∃ j' : Nat, (j : Int) + 1 = j' ∧ j' ≤ k ∧ o = ((othG l (cutK k l V m) m (List.range j') : Nat) : Int) ∧ w51 = w51) ∧ k - Int.toNat ((j : Int) + 1) < k - Int.toNat (j : Int)) := fun ho => ⟨by unfold inR; omega, ⟨j + 1, by omega, by omega, ho, rfl⟩, by omega⟩
        refine condP_i (fun hne => ⟨by omega, condD (fun hb => ?_) fun hb => step ?_⟩) fun heq => step ?_
        · have hne : j ≠ m := by simp at hne; omega
          have hb := (bit_oneT (by omega)).1 hb
          refine sl.rd rfl (by rw [hlen]; exact hjk) (step ?_)
          rw [intN_get (by rw [hcl.1]; exact hjk), iOr_nat (by have := othG_lt (left := l) (i := m) hcl.2 j; omega) (by have := hcl.2 j; omega), othG_succ, if_pos ⟨hne, hb⟩]
        · have hb : ¬ l.testBit j = true := fun h => hb ((bit_oneT (by omega)).2 h)
          rw [othG_succ, if_neg fun h => hb h.2]
        · have heq : j = m := by simp at heq; omega
          rw [othG_succ, if_neg fun h => h.1 heq]
      · have hjk : j = k := by omega
        subst hjk
        refine sl.rd rfl (by rw [hlen]; exact hmk) ⟨_, _, _, rfl, ⟨by omega, by omega⟩, ?_⟩
        rw [hAX]
        refine ⟨(Own.wr hA45 hmk).1, (Own.wr hA45 hmk).2, fun w63 hw63 => ⟨by unfold inR; omega, ⟨m + 1, by omega, by omega, ?_, hf45.trans (set_fr hw63)⟩, by dsimp only; omega⟩⟩
        have h9 := hA45.put hmk hw63
        rw [intN_get (by rw [hcl.1]; exact hmk), iAnd_nat (by have := hcl.2 m; omega) (by have := othG_lt (left := l) (i := m) hcl.2 j; omega), intN_set] at h9
        rw [cutK_succ]
        exact h9
    · have hmk : m = k := by omega
      subst hmk
      obtain ⟨U, hU⟩ : ∃ U, U = cutK m l V m := ⟨_, rfl⟩
      rw [← hU] at hA45 hcl hlen
      have hG45 : Arr w45 G m p := Own.fr E.par hf45 fun x hx e => by
        simp [Value.ownBlock] at hx
        omega
      refine ⟨fun ear other t w' => ∃ i : Nat, t = i ∧ i ≤ m ∧ (ear, other) = encP (pickN m l U i) ∧ Grow w45 w', fun _ _ t _ => m - t.toNat, ⟨0, rfl, by omega, rfl, Grow.refl _⟩, ?_⟩
      rintro - ear other t w70 ⟨i, rfl, hi, he, g70⟩
      refine condD (fun hlt => ?_) fun hge3 => ?_
      · have him : i < m := by omega
        refine ⟨fun ear other t w' => ∃ j : Nat, t = j ∧ j ≤ m ∧ (ear, other) = encP (pickIn l U i j (pickN m l U i)) ∧ Grow w45 w', fun _ _ t _ => m - t.toNat, ⟨0, rfl, by omega, he, g70⟩, ?_⟩
        rintro - ear2 other2 t w77 ⟨j, rfl, hj, he2, g77⟩
        have sl : SlI w77 (.slice (some ⟨A, 0, none⟩) m m) (intN U) := Arr.sl (Own.grow hA45 g77) hlen
        refine condD (fun hlt2 => ?_) fun hge4 => ?_
        · have hjm : j < m := by omega
          have no : ∀ {w'}, earT l U i j = false → Grow w77 w' → inR ((j : Int) + 1) ∧ ((∃ j' : Nat, (j : Int) + 1 = j' ∧ j' ≤ m ∧ (ear2, other2) = encP (pickIn l U i j' (pickN m l U i)) ∧ Grow w45 w') ∧ m - Int.toNat ((j : Int) + 1) < m - Int.toNat (j : Int)) := fun ht g => ⟨by unfold inR; omega, ⟨j + 1, by omega, by omega, by rw [pickIn_succ, ht]; exact he2, g77.trans g⟩, by omega⟩
          have yes : ∀ {w'}, earT l U i j = true → Grow w77 w' → inR ((j : Int) + 1) ∧ ((∃ j' : Nat, (j : Int) + 1 = j' ∧ j' ≤ m ∧ ((i : Int), (j : Int)) = encP (pickIn l U i j' (pickN m l U i)) ∧ Grow w45 w') ∧ m - Int.toNat ((j : Int) + 1) < m - Int.toNat (j : Int)) := fun ht g => ⟨by unfold inR; omega, ⟨j + 1, by omega, by omega, by rw [pickIn_succ, if_pos ht]; rfl, g77.trans g⟩, by omega⟩
          have gd : ∀ d : DM w77, Grow w77 (dr w77 d) := fun d => (Grow.refl w77).dr d
          refine condP_i (fun hne => ⟨by omega, condD (fun hbi => ⟨by omega, condD (fun hbj => ?_) fun hbj d => no ?_ (gd d)⟩) fun hbi d => no ?_ (gd d)⟩) fun heq d => no ?_ (gd d)
          · have hne : j ≠ i := by simp at hne; omega
            have hbi := (bit_oneT (by omega)).1 hbi
            have hbj := (bit_oneT (by omega)).1 hbj
            refine sl.rd rfl (by rw [hlen]; exact him) (sl.rd rfl (by rw [hlen]; exact hjm) fun d => ?_)
            rw [intN_get (by rw [hcl.1]; exact him), intN_get (by rw [hcl.1]; exact hjm)]
            refine condD (fun hz => yes ?_ (gd d)) fun hz => no ?_ (gd d)
            · have hz := (andNot_zero (hcl.2 i) (hcl.2 j)).1 hz
              simp only [earT, hbi, hbj, hz, hne, ne_eq, not_false_eq_true, decide_true, Bool.and_self]
            · have hz : ¬ U.getD i 0 &&& U.getD j 0 = U.getD i 0 := fun h => hz ((andNot_zero (hcl.2 i) (hcl.2 j)).2 h)
              rw [earT, decide_eq_false hz, Bool.and_false]
          · have hbj : l.testBit j = false := by
              rw [← Bool.not_eq_true]
              exact fun h => hbj ((bit_oneT (by omega)).2 h)
            rw [earT, hbj, Bool.and_false, Bool.false_and]
          · have hbi : l.testBit i = false := by
              rw [← Bool.not_eq_true]
              exact fun h => hbi ((bit_oneT (by omega)).2 h)
            rw [earT, hbi, Bool.and_false, Bool.false_and, Bool.false_and]
          · have heq : j = i := by simp at heq; omega
            rw [earT, decide_eq_false (fun h => h heq), Bool.false_and, Bool.false_and, Bool.false_and]
        · have hjm : j = m := by omega
          subst hjm
          exact ⟨by unfold inR; omega, ⟨i + 1, by omega, by omega, by rw [pickN_succ]; exact he2, g77⟩, by dsimp only; omega⟩
      · have him : i = m := by omega
        subst him
        have g2070 : Grow w1 w70 := by
          refine (gw hf20).fr ((E.fr.trans (hf45.mono fun x _ e => .inl e)).trans (Fr.of_grow g70)) fun x hx e => ?_
          omega
        cases hpick : pickN i l U i with
        | none =>
          rw [hpick] at he
          obtain ⟨rfl, rfl⟩ : ear = -1 ∧ other = -1 := by simpa [encP] using he
          refine cT (by decide) ?_
          rw [wrapU' (by omega)]
          refine (onesS_c hl64).mono ?_
          rintro e w90 ⟨rfl, g90⟩
          have hrun := E.run l p (.stop (by rw [← hU]; exact hpick))
          have sp : SlI w90 (.slice (some ⟨G, 0, none⟩) i i) p := Arr.sl (Own.grow hG45 (g70.trans g90)) E.lp
          refine ⟨_, rfl, condD (fun h1 => ⟨_, l, p, ?_, hrun, E.ll, E.lp, sp, (g1.trans g2070).trans g90⟩) fun h1 => ⟨_, l, p, ?_, hrun, E.ll, E.lp, sp, (g1.trans g2070).trans g90⟩⟩
          · rw [if_pos (by omega)]
            rfl
          · rw [if_neg (by omega)]
        | some ij =>
          obtain ⟨a, o⟩ := ij
          rw [hpick] at he
          obtain ⟨rfl, rfl⟩ : ear = (a : Int) ∧ other = (o : Int) := by simpa [encP] using he
          obtain ⟨ha, ho, ht⟩ := pick_some (Nat.le_refl i) hpick
          obtain ⟨b1, b2, b3, b4⟩ := earT_iff.1 ht
          refine cF (decide_eq_false (by omega)) ⟨by omega, _, _, _, rfl, ⟨by omega, by omega⟩, ?_⟩
          have hGX : Addr.add ⟨G, 0, none⟩ (Int.toNat (a : Int) * 1) = ⟨G, a, none⟩ := by rw [Int.toNat_natCast, Nat.mul_one, Addr.add0]
          rw [hGX]
          have hG70 : Arr w70 G i p := Own.grow hG45 g70
          refine ⟨(Own.wr hG70 ha).1, (Own.wr hG70 ha).2, fun w96 hw96 => ?_⟩
          rw [clr_eq (by omega) (by omega)]
          have hc := cnt_clr (n := i) (left := l) (i := a) ⟨ha, b2⟩
          refine ⟨⟨clr l a, U, p.set a (o : Int), rfl, ?_, hG70.put ha hw96, ?_, ?_, hcl.1, hcl.2, by rw [List.length_set]; exact E.lp, fun l2 p2 h2 => E.run l2 p2 (.go (by rw [← hU]; exact hpick) (by rw [← hU]; exact h2))⟩, ?_⟩
          · exact Own.fr (Own.grow hA45 g70) (set_fr hw96) fun x hx e => by
              simp [Value.ownBlock] at hx
              have e : x = G := e
              omega
          · exact ((E.fr.trans (hf45.mono fun x _ e => .inl e)).trans (Fr.of_grow g70)).trans ((set_fr hw96).mono fun x _ e => .inr e)
          · exact VC.nSub_lt E.ll
          · dsimp only
            rw [Int.toNat_natCast, Int.toNat_natCast]
            omega
end Go.Proofs.Ytleiddajojgmmaa

/- Contracts: Rest and JoinTree. No condition. -/
namespace Go.Proofs.Ytleiddajojgmmaa
open Go Go.RowKit VC
set_option linter.unusedSimpArgs false
set_option linter.unusedVariables false

/-- Atom i has variable x. -/
def hasV (b : List Atm) (i x : Nat) : Bool := ((varsOf b).getD i 0).testBit x
theorem earI_init (b : List Atm) : EarI (fun i x => hasV b i x = true) b.length (2 ^ b.length - 1) (varsOf b) := ⟨by simp [varsOf], fun i _ _ x h => h, fun i k _ _ _ _ _ x hx _ => hx⟩
def restV (l : Nat) : Nat := if pc l = 1 then 0 else l
theorem pc_one : ∀ l, l < 32 → pc l = 1 → ∃ i, i < 5 ∧ l = 2 ^ i := by decide +kernel
theorem pc_pow : ∀ i, i < 5 → pc (2 ^ i) = 1 := by decide +kernel
theorem single_pc {n l : Nat} (hn : n ≤ 5) (hl : l < 2 ^ n) : Single n l ↔ pc l = 1 := by
  have hP : 2 ^ n ≤ 2 ^ 5 := Nat.pow_le_pow_right (by omega) hn
  constructor
  · rintro ⟨i, hi⟩
    have hin := (hi i).2 rfl
    have : l = 2 ^ i := Nat.eq_of_testBit_eq fun j => by
      rw [Nat.testBit_two_pow]
      rcases Nat.lt_or_ge j n with hj | hj
      · by_cases e : i = j
        · subst e
          rw [hin.2]
          simp
        · rw [decide_eq_false e]
          rw [← Bool.not_eq_true]
          exact fun h => e ((hi j).1 ⟨hj, h⟩).symm
      · rw [Nat.testBit_lt_two_pow (Nat.lt_of_lt_of_le hl (Nat.pow_le_pow_right (by omega) hj))]
        rw [decide_eq_false (by have := hin.1; omega)]
    rw [this]
    exact pc_pow i (by have := hin.1; omega)
  · intro h
    obtain ⟨i, hi, rfl⟩ := pc_one l (by omega) h
    refine ⟨i, fun j => ?_⟩
    unfold InS
    rw [Nat.testBit_two_pow, decide_eq_true_eq]
    refine ⟨fun h => h.2.symm, fun h => ⟨?_, h.symm⟩⟩
    subst h
    rcases Nat.lt_or_ge j n with h9 | h9
    · exact h9
    · have := Nat.pow_le_pow_right (n := 2) (by omega) h9
      omega
theorem rest_c {w : World} {hv bv : Value} {h : List Int} {b : List Atm} (sh : SlI w hv h) (sb : SlA w bv b) :
    Calls Try.prog 18 #[.agg #[hv, bv]] w fun e w' => (okQ h b = false ∧ e = .returned (.tuple #[.int .i64 0, .int .i64 2]) ∨ okQ h b = true ∧ ∃ l2 p2, e = .returned (.tuple #[.int .i64 (restV l2 : Nat), .int .i64 0]) ∧ EarsR b.length (2 ^ b.length - 1) (varsOf b) (List.replicate b.length (-1)) l2 p2 ∧ l2 < 2 ^ b.length) ∧ Grow w w' := by
  refine f18_calls _ ?_
  refine ⟨_, rfl, fun w1 hw1 => ?_⟩
  have g1 := alloc_grow hw1
  have p0 := boxc hw1 0 hv rfl
  have p1 := boxc hw1 1 bv rfl
  refine ⟨[_, _], rfl, two p0 p1, (valid_c (sh.grow g1) (sb.gr g1)).mono ?_⟩
  rintro e w4 ⟨rfl, g4⟩
  have g04 := g1.trans g4
  refine ⟨_, rfl, condP_i (fun hn => ⟨.inl ⟨by simpa using hn, rfl⟩, g04⟩) fun hk => ?_⟩
  have ok : okQ h b = true := by simpa using hk
  have hbl := okQ_len ok
  have oa : ∀ a ∈ b, okA a = true := fun a ha => by
    simp only [okQ, Bool.and_eq_true, List.all_eq_true] at ok
    exact ok.1.2 a ha
  refine ⟨[_, _], rfl, two (g4.cell p0) (g4.cell p1), (ears_c (sb.gr g04) oa hbl.1 hbl.2.1).mono ?_⟩
  rintro e w8 ⟨pv, l2, p2, rfl, hE, hl, hp, sp, g8⟩
  exact ⟨_, _, rfl, .inr ⟨ok, l2, p2, rfl, hE, hl⟩, g04.trans g8⟩
end Go.Proofs.Ytleiddajojgmmaa

/- Of, with all that it owns; atoms turned around. No condition. -/
namespace Go.Proofs.Ytleiddajojgmmaa
open Go Go.RowKit VC
set_option linter.unusedSimpArgs false
set_option linter.unusedVariables false

/-- A slice of atoms with Args that are the call's own as well, each in an array of its own. -/
structure Nest (w : World) (B : Nat) (v : Value) (ps : List (Value × Atm)) : Prop where
  own : Own w B 41 2 v ps.length (ps.flatMap fun p => [.int .i64 p.2.1, p.1])
  args : ∀ p ∈ ps, OwnI w B p.1 p.2.2
  sep : ps.Pairwise fun p q => ∀ k, p.1.ownBlock = some k → q.1.ownBlock ≠ some k
  sepv : ∀ p ∈ ps, ∀ k, p.1.ownBlock = some k → v.ownBlock ≠ some k
theorem Nest.fr {S : Nat → Prop} {w w' : World} {B : Nat} {v : Value} {ps : List (Value × Atm)} (h : Nest w B v ps) (hf : Fr S w w') (hv : ∀ k, v.ownBlock = some k → ¬ S k) (ha : ∀ p ∈ ps, ∀ k, p.1.ownBlock = some k → ¬ S k) : Nest w' B v ps :=
  ⟨Own.fr h.own hf hv, fun p hp => Own.fr (h.args p hp) hf (ha p hp), h.sep, h.sepv⟩
theorem Nest.grow {w w' : World} {B : Nat} {v : Value} {ps : List (Value × Atm)} (h : Nest w B v ps) (hf : Grow w w') : Nest w' B v ps := h.fr (Fr.of_grow (S := fun _ => False) hf) (fun _ _ => id) fun _ _ _ _ => id
theorem Nest.mono {w : World} {B B' : Nat} {v : Value} {ps : List (Value × Atm)} (h : Nest w B v ps) (hB : B' ≤ B) : Nest w B' v ps := ⟨Own.mono h.own hB, fun p hp => Own.mono (h.args p hp) hB, h.sep, h.sepv⟩
def repO (B : Nat) (w : World) (cs : List Value) (x : Atm × Option Nat) : Prop := ∃ v, cs = [.int .i64 x.1.1, v] ∧ v.ownBlock = x.2 ∧ OwnI w B v x.1.2
theorem elx_ownO {T : Nat → Prop} {w : World} {B B0 : Nat} {r : Int} {v out : Value} {xs : List Int} (ho : OwnI w B v xs) (hB : B0 ≤ B) (hT : ∀ b, T b → b < B) (hout : ∀ b, out.ownBlock = some b → b < B) : ElX T 2 (repO B0) out w ([.int .i64 r, v], ((r, xs), v.ownBlock)) := by
  refine ⟨rfl, ?_, fun w' hf => ⟨v, rfl, rfl, Own.mono (Own.fr ho hf fun k hk e => ?_) hB⟩⟩
  · intro u hu
    simp at hu
    rcases hu with rfl | rfl
    · rfl
    · exact (Own.one ho).2
  · have h2 := (Own.lt ho hk).1
    rcases e with e | e
    · have := hT k e; omega
    · have h1 := hout k e.symm
      omega
theorem nest_of {T : Nat → Prop} {w : World} {B : Nat} {v : Value} {xs : List (Atm × Option Nat)} (h : OwnX T 2 (repO B) w B 41 v xs) (hs : xs.Pairwise fun x y => ∀ k, x.2 = some k → y.2 ≠ some k) (hv : ∀ x ∈ xs, ∀ k, x.2 = some k → v.ownBlock ≠ some k) : ∃ ps : List (Value × Atm), Nest w B v ps ∧ ps.map Prod.snd = xs.map Prod.fst ∧ ∀ p ∈ ps, ∃ x ∈ xs, x.2 = p.1.ownBlock := by
  obtain ⟨qs, rfl, hel, hown⟩ := h.ex
  have hrep : ∀ q ∈ qs, repO B w q.1 q.2 := fun q hq => (hel q hq).rep w (Fr.refl _ _)
  have hcell : ∀ q ∈ qs, q.1 = [.int .i64 q.2.1.1, q.1.getD 1 undef] := fun q hq => by
    obtain ⟨u, h1, h2, h3⟩ := hrep q hq
    rw [h1]
    rfl
  have hblk : ∀ q ∈ qs, (q.1.getD 1 undef).ownBlock = q.2.2 ∧ OwnI w B (q.1.getD 1 undef) q.2.1.2 := fun q hq => by
    obtain ⟨u, h1, h2, h3⟩ := hrep q hq
    rw [h1]
    exact ⟨h2, h3⟩
  refine ⟨qs.map fun q => (q.1.getD 1 undef, q.2.1), ⟨?_, fun p hp => ?_, ?_, fun p hp k hk => ?_⟩, ?_, fun p hp => ?_⟩
  · rw [List.length_map, List.flatMap_map]
    rw [List.length_map] at hown
    have : (qs.flatMap fun q => [Value.int .i64 q.2.1.1, q.1.getD 1 undef]) = qs.flatMap Prod.fst := by
      clear hown hel hrep hblk hs hv h
      induction qs with
      | nil => rfl
      | cons a r ih =>
        rw [List.flatMap_cons, List.flatMap_cons, ih fun q hq => hcell q (List.mem_cons_of_mem _ hq), ← hcell a (List.mem_cons_self ..)]
    show Own w B _ 2 v qs.length (qs.flatMap fun q => [Value.int .i64 q.2.1.1, q.1.getD 1 undef])
    rw [this]
    exact hown
  · obtain ⟨q, hq, rfl⟩ := List.mem_map.1 hp
    exact (hblk q hq).2
  · rw [List.pairwise_map]
    rw [List.pairwise_map] at hs
    refine hs.imp_of_mem fun {a b} ha hb hab k hk => ?_
    show (b.1.getD 1 undef).ownBlock ≠ some k
    rw [(hblk b hb).1]
    exact hab k ((hblk a ha).1 ▸ hk)
  · obtain ⟨q, hq, rfl⟩ := List.mem_map.1 hp
    exact hv q.2 (List.mem_map.2 ⟨q, hq, rfl⟩) k ((hblk q hq).1 ▸ hk)
  · rw [List.map_map, List.map_map]; rfl
  · obtain ⟨q, hq, rfl⟩ := List.mem_map.1 hp
    exact ⟨q.2, List.mem_map.2 ⟨q, hq, rfl⟩, (hblk q hq).1.symm⟩
/-- Between the rounds of Of. -/
structure OfO (w9 : World) (C : Nat) (hv : Value) (l : List Atm) (k : Nat) (w' : World) (bv : Value) (xs : List (Atm × Option Nat)) : Prop where
  rc : RecV w' C [hv, bv]
  own : OwnX (fun b => b < w9.heap.size) 2 (repO w9.heap.size) w' w9.heap.size 41 bv xs
  eq : xs.map Prod.fst = (l.take k).map trA
  sep : xs.Pairwise fun x y => ∀ k, x.2 = some k → y.2 ≠ some k
  ub : ∀ x ∈ xs, ∀ k, x.2 = some k → (w9.heap.size ≤ k ∧ k < w'.heap.size) ∧ bv.ownBlock ≠ some k
  fr : Fr (fun i => i = C) w9 w'
theorem OfO.len {w9 : World} {C : Nat} {hv : Value} {l : List Atm} {k : Nat} {w' : World} {bv : Value} {xs : List (Atm × Option Nat)} (h : OfO w9 C hv l k w' bv xs) (hk : k ≤ l.length) : xs.length = k := by
  have := congrArg List.length h.eq
  simpa [Nat.min_eq_left hk] using this
/-- The copy of a query, all of whose arrays are its own. -/
theorem ofO_c {w : World} {hv v : Value} {h : List Int} {l : List Atm} (hh : SlI w hv h) (hs : SlA w v l) : Calls Try.prog 19 #[.agg #[hv, v]] w fun e w' => ∃ hv' v' ps, e = .returned (.agg #[hv', v']) ∧ OwnI w' w.heap.size hv' (h.take 9) ∧ Nest w' w.heap.size v' ps ∧ ps.map Prod.snd = trB l ∧ Grow w w' ∧ ∀ k, hv'.ownBlock = some k → v'.ownBlock ≠ some k ∧ ∀ p ∈ ps, p.1.ownBlock ≠ some k := by
  refine f19_calls _ ?_
  have hle := SlX.len_le hs
  refine ⟨_, rfl, fun w1 hw1 w3 hw3 => ?_⟩
  have g1 := alloc_grow hw1
  have g3 := alloc_grow hw3
  have s1 := alloc_size hw1
  have s3 := alloc_size hw3
  have hR := RecV.new hw3
  have hq := (RecV.new hw1).grow g3
  refine ⟨_, hq.cell (j := 0) rfl, (few_c (hh.grow (g1.trans g3))).mono ?_⟩
  rintro e w5 ⟨hv', rfl, ho5, g5⟩
  refine ⟨hv', rfl, Own.one ho5, fun w8 hw8 => RecV.init (cs := [hv', .slice none 0 0]) hw8 rfl (by
    intro u hu
    simp at hu
    rcases hu with rfl | rfl
    · exact (Own.one ho5).2
    · rfl) fun w9 g9 s9 hC => ?_⟩
  have g39 := g5.trans g9
  have g09 := (g1.trans g3).trans g39
  refine ⟨_, (hq.grow g39).cell (j := 1) rfl, SlX.ln (hs.gr g09) ?_⟩
  have hs5 := g5.size
  have hs9 := g9.size
  have fin : ∀ {k w' bv xs}, (l.take k).map trA = trB l → OfO w9 w5.heap.size hv' l k w' bv xs → ∃ cs : List Value, cs.length = 2 ∧ (∀ (j : Nat) (u : Value), cs[j]? = some u → w'.cell? (Addr.add ⟨w5.heap.size, 0, none⟩ j) = some u) ∧ ∃ cs' : Array Value, (Value.agg cs.toArray) = Value.agg cs' ∧ cs'.size = 2 ∧
      ∃ w2 : World, (storeCells ⟨w1.heap.size, 0, none⟩ cs'.toList).run Try.prog w' = .ok () w2 ∧ ∃ ds : List Value, ds.length = 2 ∧ (∀ (j : Nat) (u : Value), ds[j]? = some u → w2.cell? (Addr.add ⟨w1.heap.size, 0, none⟩ j) = some u) ∧
        ∃ hv2 v2 ps, Ending.returned (.agg ds.toArray) = .returned (.agg #[hv2, v2]) ∧ OwnI w2 w.heap.size hv2 (h.take 9) ∧ Nest w2 w.heap.size v2 ps ∧ ps.map Prod.snd = trB l ∧ Grow w w2 ∧ ∀ k, hv2.ownBlock = some k → v2.ownBlock ≠ some k ∧ ∀ p ∈ ps, p.1.ownBlock ≠ some k := fun {k w' bv xs} hk hI => by
    have hfr := hI.fr
    have hR' : RecV w' w1.heap.size _ := (hR.grow g39).fr hfr (by omega)
    refine ⟨[hv', bv], rfl, hI.rc.all, ?_⟩
    refine RecV.store (cs := [hv', bv]) hR' rfl (by
      intro u hu
      simp at hu
      rcases hu with rfl | rfl
      · exact (Own.one ho5).2
      · exact hI.own.one.2) fun w2 hf hr => ?_
    have hown2 := OwnX.fr hI.own hf (fun b hb => by show b < w9.heap.size; omega) fun b hb e => by have := (hI.own.lt hb).1; omega
    obtain ⟨ps, hN, hps, hblk⟩ := nest_of hown2 hI.sep fun x hx k hk => (hI.ub x hx k hk).2
    refine ⟨[hv', bv], rfl, hr.all, hv', bv, ps, rfl, ?_, Nest.mono hN (by omega), by rw [hps, hI.eq, hk], ?_, fun k hk => ⟨fun e => by have := (Own.lt ho5 hk).2; have := (hI.own.lt e).1; omega, fun p hp e => ?_⟩⟩
    · refine Own.mono (Own.fr (Own.fr (Own.grow ho5 g9) hfr fun b hb e => ?_) hf fun b hb e => ?_) (by omega)
      · have := Own.lt ho5 hb; omega
      · have := Own.lt ho5 hb; omega
    · exact (g09.fr hfr fun i hi e => by omega).fr hf fun i hi e => by omega
    · obtain ⟨x, hx, he⟩ := hblk p hp
      have h1 := (hI.ub x hx k (he.trans e)).1
      have h2 := (Own.lt ho5 hk).2
      omega
  refine ⟨fun t w' => ∃ (k : Nat) (bv : Value) (xs : List (Atm × Option Nat)), t = k ∧ k ≤ l.length ∧ k ≤ 7 ∧ OfO w9 w5.heap.size hv' l k w' bv xs, fun t _ => l.length - t.toNat, ⟨0, _, [], rfl, by omega, by omega, hC, OwnX.nil _ _ _, rfl, List.Pairwise.nil, fun x hx => by simp at hx, Fr.refl _ _⟩, ?_⟩
  rintro - t w19 ⟨k, bv, xs, rfl, hk, hk7, hI⟩
  have gI : Grow w w19 := g09.fr hI.fr fun i hi e => by omega
  refine condD (fun hlt => ?_) (fun hge => ?_)
  · have hkl : k < l.length := by omega
    refine SlX.loc (hs.gr gI) rfl hkl rfl fun w25 u g25 _ hu c0 c1 => ?_
    have hI25 : OfO w9 w5.heap.size hv' l k w25 bv xs := ⟨hI.rc.grow g25, hI.own.grow g25, hI.eq, hI.sep, fun x hx k hk => ⟨⟨(hI.ub x hx k hk).1.1, Nat.lt_of_lt_of_le (hI.ub x hx k hk).1.2 g25.size⟩, (hI.ub x hx k hk).2⟩, hI.fr.trans (Fr.of_grow g25)⟩
    have hxl := hI25.len hk
    refine condD (fun h6 => fin ?_ hI25) fun h6 m => ?_
    · have : k = 7 := by omega
      subst this; rfl
    · have gm : Grow w25 (dr w25 m) := (Grow.refl w25).dr m
      have hf9 := hI25.fr.size
      have hbl : ∀ b, bv.ownBlock = some b → b < w25.heap.size := fun b hb => (hI25.own.lt hb).2
      have leaf : ∀ {E v'}, OwnI E (dr w25 m).heap.size v' ((l[k]).2.take 9) → Grow (dr w25 m) E → ∃ t : Value, ∃ w' : World, (Instr.buildSlice 59 1 #[(0, .agg #[.int .i64 (l[k]).1, v'])]).run Try.prog E = .ok t w' ∧ (w'.cell? (Addr.add ⟨w5.heap.size, 0, none⟩ 1) = some bv ∧
          PApp Try.prog 59 59 bv t w' fun v2 w2 => oneV v2 ∧ (∃ old, w2.cell? (Addr.add ⟨w5.heap.size, 0, none⟩ 1) = some old) ∧ w2.frozen? (Addr.add ⟨w5.heap.size, 0, none⟩ 1) = false ∧ ∀ w4, w4 = w2.setCell (Addr.add ⟨w5.heap.size, 0, none⟩ 1) v2 →
            inR ((k : Int) + 1) ∧ ((∃ (k' : Nat) (bv : Value) (xs : List (Atm × Option Nat)), (k : Int) + 1 = k' ∧ k' ≤ l.length ∧ k' ≤ 7 ∧ OfO w9 w5.heap.size hv' l k' w4 bv xs) ∧ l.length - Int.toNat ((k : Int) + 1) < l.length - Int.toNat (k : Int))) := fun {E v'} ho gE => by
        have gE' := gm.trans gE
        refine bs1 el_atom (by omega) (by omega) (cs := #[.int .i64 (l[k]).1, v']) rfl E fun w' hw' => ⟨((hI25.rc.grow gE').grow (alloc_grow hw')).cell rfl, ?_⟩
        refine pappX1 el_atom (by omega) (cs := [.int .i64 (l[k]).1, v']) (y := (trA l[k], v'.ownBlock)) (hI25.own.grow gE') hw' (elx_ownO ho hf9 (fun b hb => Nat.lt_of_lt_of_le hb hf9) hbl) (by have := gE'.size; omega) (by rw [hxl]; omega) (by omega) ?_
        intro v2 w2 ho2 hf2 _ hblk
        have hCne : ∀ (k : Nat), k = w5.heap.size → ¬ some k = bv.ownBlock := fun b e e2 => by
          have := (hI25.own.lt e2.symm).1; omega
        have hC2 : RecV w2 w5.heap.size [hv', bv] := ((hI25.rc.grow gE').grow (alloc_grow hw')).fr hf2 (hCne _ rfl)
        have hsz : (dr w25 m).heap.size = w25.heap.size := rfl
        have hszE := gE'.size
        have hszw := alloc_size hw'
        have hsz2 := hf2.size
        refine ⟨ho2.one, ⟨_, hC2.cell (j := 1) rfl⟩, hC2.free 1, fun w4 hw4 => ⟨by unfold inR; omega, ⟨k + 1, v2, xs ++ [(trA l[k], v'.ownBlock)], by omega, by omega, by omega, hC2.set hw4, ?_, ?_, ?_, ?_, ?_⟩, by omega⟩⟩
        · refine OwnX.fr ho2 (RecV.set_fr hw4) (fun b hb => ?_) fun b hb e => ?_
          · show b < w9.heap.size
            omega
          · have := (ho2.lt hb).1; omega
        · rw [trF_succ hkl, List.map_append, hI25.eq]
          rfl
        · refine List.pairwise_append.2 ⟨hI25.sep, List.pairwise_singleton _ _, fun x hx y hy j hj e => ?_⟩
          rw [List.mem_singleton.1 hy] at e
          have h1 := (hI25.ub x hx j hj).1.2
          have h2 := (Own.lt ho e).1
          omega
        · have s4 : w4.heap.size = w2.heap.size := by rw [hw4]; simp
          intro x hx j hj
          rcases List.mem_append.1 hx with hx | hx
          · have h1 := hI25.ub x hx j hj
            refine ⟨⟨h1.1.1, by omega⟩, fun e => ?_⟩
            rcases hblk j e with h | h
            · exact h1.2 h.symm
            · omega
          · rw [List.mem_singleton.1 hx] at hj
            have h2 := Own.lt ho hj
            refine ⟨⟨by omega, by omega⟩, fun e => ?_⟩
            rcases hblk j e with h | h
            · have := hbl j h.symm
              omega
            · omega
        · refine Fr.trans (b := w2) (Fr.mono (S := fun i => w9.heap.size ≤ i ∨ i = w5.heap.size) ((hI25.fr.mono fun i _ e => .inr e).trans ((Fr.of_grow (gE'.trans (alloc_grow hw'))).trans (hf2.mono fun i _ e => .inl ?_))) fun i hi e => ?_) (RecV.set_fr hw4)
          · exact (hI25.own.lt e.symm).1
          · rcases e with e | e
            · omega
            · exact e
      have call : ∀ {Q : Ending → World → Prop}, (∀ v' E, OwnI E (dr w25 m).heap.size v' ((l[k]).2.take 9) → Grow (dr w25 m) E → Q (.returned v') E) → Calls Try.prog 28 #[u] (dr w25 m) Q := fun hq => (few_c (hu.dr m)).mono (by
        rintro e E ⟨v', rfl, ho, gE⟩
        exact hq v' E ho gE)
      have cC : ∀ {E}, Grow (dr w25 m) E → E.cell? (Addr.add ⟨w5.heap.size, 0, none⟩ 1) = some bv := fun g => (hI25.rc.grow (gm.trans g)).cell (j := 1) rfl
      have k0 : ∀ {E}, Grow (dr w25 m) E → E.cell? (Addr.add ⟨w19.heap.size, 0, none⟩ 0) = some (.int .i64 (l[k]).1) := fun g => (gm.trans g).cell c0
      have k1 : ∀ {E}, Grow (dr w25 m) E → E.cell? (Addr.add ⟨w19.heap.size, 0, none⟩ 1) = some u := fun g => (gm.trans g).cell c1
      repeat' first
        | exact Own.one ‹_›
        | refine And.intro ?_ ?_
        | refine ⟨_, cC (Grow.refl _), ?_⟩
        | refine ⟨_, k0 (Grow.refl _), ?_⟩
        | refine ⟨_, k1 (Grow.refl _), ?_⟩
        | refine ⟨_, cC ‹Grow (dr w25 m.1) _›, ?_⟩
        | refine ⟨_, k0 ‹Grow (dr w25 m.1) _›, ?_⟩
        | (refine call ?_; intro v' E ho gE; refine ⟨v', rfl, ?_⟩)
        | (obtain ⟨t, w', a, b, c⟩ := leaf ‹_› ‹Grow (dr w25 m.1) _›; exact ⟨t, w', a, c⟩)
        | (obtain ⟨t, w', a, b, c⟩ := leaf ‹_› ‹Grow (dr w25 m.1) _›; exact ⟨t, w', a, _, b, c⟩)
  · have hkl : k = l.length := by omega
    subst hkl
    exact fin (by unfold trB; rw [List.take_length, List.take_of_length_le hk7]) hI
end Go.Proofs.Ytleiddajojgmmaa

/- Elimination under other sets, under other names, of fewer and of more atoms. Of no program. No condition. -/
namespace Go.Proofs.Ytleiddajojgmmaa
set_option linter.unusedSimpArgs false
set_option linter.unusedVariables false

/-! ## Elimination under other sets, other names, fewer atoms -/
section
variable {vs vs' : Nat → Nat → Prop}
theorem Elim.ears {S : Nat → Prop} {n : Nat} (h : Elim vs S n) : (∀ S' i k, (∀ j, S' j → S j) → Ear vs S' i k → Ear vs' S' i k) → Elim vs' S n := by
  induction h with
  | one h1 => exact fun _ => .one h1
  | step h1 h2 ih => exact fun hE => .step (hE _ _ _ (fun _ h => h) h1) (ih fun S' i k hs => hE S' i k fun j hj => (hs j hj).1)
theorem Elim.pos {S : Nat → Prop} {n : Nat} (h : Elim vs S n) : ∃ m, n = m + 1 := by
  cases h with
  | one _ => exact ⟨0, rfl⟩
  | step _ _ => exact ⟨_, rfl⟩
theorem Elim.drop {S : Nat → Prop} {n : Nat} (h : Elim vs S n) {i k : Nat} (hi : S i) (hk : S k) (hne : i ≠ k) (hs : ∀ x, vs i x → vs k x) : ∃ m, Elim vs (Wo S i) m := by
  have he : Ear vs S i k := ⟨hi, hk, hne, fun j _ _ x hx _ => hs x hx⟩
  cases h with
  | one h1 => exact absurd ((h1 i).1 hi) fun e => hne (e.trans ((h1 k).1 hk).symm)
  | step h1 h2 =>
    obtain ⟨m, rfl⟩ := h2.pos
    exact ⟨_, Elim.exch (.step h1 h2) he⟩
/-- Atoms whose sets lie in those of atoms that stay. -/
theorem Elim.keep {S T : Nat → Prop} {N n : Nat} (h : Elim vs S n) (hN : ∀ j, S j → j < N) (hT : ∀ j, T j → S j) (hsub : ∀ i, S i → ¬ T i → ∃ k, T k ∧ ∀ x, vs i x → vs k x) : ∃ m, Elim vs T m := by
  have go : ∀ t, ∃ m, Elim vs (fun j => S j ∧ (T j ∨ t ≤ j)) m := by
    intro t
    induction t with
    | zero => exact ⟨n, h.congr fun j => ⟨fun hj => ⟨hj, .inr (Nat.zero_le _)⟩, fun hj => hj.1⟩⟩
    | succ t ih =>
      obtain ⟨m, hm⟩ := ih
      by_cases hc : S t ∧ ¬ T t
      · obtain ⟨k, hk, hx⟩ := hsub t hc.1 hc.2
        obtain ⟨m2, hm2⟩ := hm.drop (i := t) (k := k) ⟨hc.1, .inr (Nat.le_refl _)⟩ ⟨hT k hk, .inl hk⟩ (fun e => hc.2 (e ▸ hk)) hx
        refine ⟨m2, hm2.congr fun j => ?_⟩
        unfold Wo
        constructor
        · rintro ⟨⟨h1, h2⟩, h3⟩
          exact ⟨h1, h2.imp id fun h => by omega⟩
        · rintro ⟨h1, h2⟩
          refine ⟨⟨h1, h2.imp id fun h => by omega⟩, ?_⟩
          rintro rfl
          rcases h2 with h2 | h2
          · exact hc.2 h2
          · omega
      · refine ⟨m, hm.congr fun j => ?_⟩
        constructor
        · rintro ⟨h1, h2⟩
          refine ⟨h1, ?_⟩
          rcases h2 with h2 | h2
          · exact .inl h2
          · by_cases e : j = t
            · subst e
              exact .inl (Classical.byContradiction fun h => hc ⟨h1, h⟩)
            · exact .inr (by omega)
        · rintro ⟨h1, h2⟩
          exact ⟨h1, h2.imp id fun h => by omega⟩
  obtain ⟨m, hm⟩ := go N
  refine ⟨m, hm.congr fun j => ?_⟩
  constructor
  · rintro ⟨h1, h2⟩
    rcases h2 with h2 | h2
    · exact h2
    · have := hN j h1
      omega
  · exact fun h => ⟨hT j h, .inl h⟩
theorem Elim.ren {f : Nat → Nat} {S : Nat → Prop} {n : Nat} (h : Elim vs S n) : (∀ a b, S a → S b → f a = f b → a = b) → (∀ a, S a → ∀ x, vs a x ↔ vs' (f a) x) → ∀ {S' : Nat → Prop}, (∀ j', S' j' ↔ ∃ j, S j ∧ f j = j') → Elim vs' S' n := by
  induction h with
  | @one S i hi =>
    intro _ _ S' hS'
    refine .one (i := f i) fun j' => ?_
    rw [hS']
    constructor
    · rintro ⟨j, hj, rfl⟩
      rw [(hi j).1 hj]
    · rintro rfl
      exact ⟨i, (hi i).2 rfl, rfl⟩
  | @step S i k n he hr ih =>
    intro hinj hv S' hS'
    obtain ⟨h1, h2, h3, h4⟩ := he
    refine .step (i := f i) (k := f k) ⟨(hS' _).2 ⟨i, h1, rfl⟩, (hS' _).2 ⟨k, h2, rfl⟩, fun e => h3 (hinj _ _ h1 h2 e), fun j' hj' hne x hx hy => ?_⟩ ?_
    · obtain ⟨j, hj, rfl⟩ := (hS' _).1 hj'
      exact (hv k h2 x).1 (h4 j hj (fun e => hne (by rw [e])) x ((hv i h1 x).2 hx) ((hv j hj x).2 hy))
    · refine ih (fun a b ha hb => hinj a b ha.1 hb.1) (fun a ha => hv a ha.1) fun j' => ?_
      unfold Wo
      rw [hS']
      constructor
      · rintro ⟨⟨j, hj, rfl⟩, hne⟩
        exact ⟨j, ⟨hj, fun e => hne (by rw [e])⟩, rfl⟩
      · rintro ⟨j, ⟨hj, hne⟩, rfl⟩
        exact ⟨⟨j, hj, rfl⟩, fun e => hne (hinj _ _ hj h1 e)⟩
end
section
variable {vs : Nat → Nat → Prop}
theorem Elim.add {S : Nat → Prop} {n : Nat} {i k : Nat} (hi : S i) (hk : S k) (hne : i ≠ k) (hs : ∀ x, vs i x → vs k x) (h : Elim vs (Wo S i) n) : Elim vs S (n + 1) := .step ⟨hi, hk, hne, fun j _ _ x hx _ => hs x hx⟩ h
/-- Atoms whose sets lie in those of atoms that are there already. -/
theorem Elim.fill {S T : Nat → Prop} {N n : Nat} (h : Elim vs T n) (hN : ∀ j, S j → j < N) (hT : ∀ j, T j → S j) (hsub : ∀ i, S i → ¬ T i → ∃ k, T k ∧ ∀ x, vs i x → vs k x) : ∃ m, Elim vs S m := by
  have go : ∀ t, ∃ m, Elim vs (fun j => S j ∧ (T j ∨ j < t)) m := by
    intro t
    induction t with
    | zero => exact ⟨n, h.congr fun j => ⟨fun hj => ⟨hT j hj, .inl hj⟩, fun hj => hj.2.elim id fun h => by omega⟩⟩
    | succ t ih =>
      obtain ⟨m, hm⟩ := ih
      by_cases hc : S t ∧ ¬ T t
      · obtain ⟨k, hk, hx⟩ := hsub t hc.1 hc.2
        refine ⟨m + 1, Elim.add (i := t) (k := k) ⟨hc.1, .inr (Nat.lt_succ_self t)⟩ ⟨hT k hk, .inl hk⟩ (fun e => hc.2 (e ▸ hk)) hx (hm.congr fun j => ?_)⟩
        unfold Wo
        constructor
        · rintro ⟨h1, h2⟩
          refine ⟨⟨h1, h2.imp id fun h => by omega⟩, ?_⟩
          rintro rfl
          rcases h2 with h2 | h2
          · exact hc.2 h2
          · omega
        · rintro ⟨⟨h1, h2⟩, h3⟩
          exact ⟨h1, h2.imp id fun h => by omega⟩
      · refine ⟨m, hm.congr fun j => ?_⟩
        constructor
        · rintro ⟨h1, h2⟩
          exact ⟨h1, h2.imp id fun h => by omega⟩
        · rintro ⟨h1, h2⟩
          refine ⟨h1, ?_⟩
          rcases h2 with h2 | h2
          · exact .inl h2
          · by_cases e : j = t
            · subst e
              exact .inl (Classical.byContradiction fun h => hc ⟨h1, h⟩)
            · exact .inr (by omega)
  obtain ⟨m, hm⟩ := go N
  exact ⟨m, hm.congr fun j => ⟨fun h => h.1, fun h => ⟨h, .inr (hN j h)⟩⟩⟩
end
end Go.Proofs.Ytleiddajojgmmaa

/- The core of what can be eliminated can be eliminated. Of no program. No condition. -/
namespace Go.Proofs.Ytleiddajojgmmaa
open VC
set_option linter.unusedSimpArgs false
set_option linter.unusedVariables false

/-- What reaches all of a list from within it takes no two to the same. -/
theorem inj_surj {l : List Nat} (hn : l.Nodup) {f : Nat → Nat} (hs : ∀ j ∈ l, ∃ i ∈ l, f i = j) : ∀ a ∈ l, ∀ b ∈ l, f a = f b → a = b := fun a ha b hb e => Classical.byContradiction fun hne => by
  have h1 : ∀ j ∈ l, j ∈ (l.erase b).map f := fun j hj => by
    obtain ⟨i, hi, rfl⟩ := hs j hj
    by_cases h : i = b
    · subst h
      exact List.mem_map.2 ⟨a, (List.mem_erase_of_ne hne).2 ha, e⟩
    · exact List.mem_map.2 ⟨i, (List.mem_erase_of_ne h).2 hi, rfl⟩
  have h2 := sub_len hn h1
  rw [List.length_map, List.length_erase_of_mem hb] at h2
  have := List.length_pos_of_mem hb
  omega
/-! ## A homomorphism into the core -/
def atB (b : List Atm) (i : Nat) : Atm := b.getD i (0, [])
theorem atB_get {b : List Atm} {i : Nat} (h : i < b.length) : atB b i = b[i] := by simp [atB, List.getD, h]
theorem mem_partN {b : List Atm} {l : List Nat} {a : Atm} : a ∈ partN b l ↔ ∃ i ∈ l, atB b i = a := List.mem_map
/-- A homomorphism, for fewer atoms. -/
def cutH (bp : List Atm) (g : List Int) : List Int := (List.range 8).map fun i => if (varsB bp).testBit i = true then g.getD i 0 else 99
theorem cutH_get {bp : List Atm} {g : List Int} {i : Nat} (hi : i < 8) : (cutH bp g).getD i 0 = if (varsB bp).testBit i = true then g.getD i 0 else 99 := by
  unfold cutH
  rw [List.getD, List.getElem?_map, List.getElem?_range hi]
  rfl
theorem hom_cut {h g : List Int} {b bp bq bq' : List Atm} (okp : okQ h bp = true) (hG : IsHom h b h bq g) (hs : ∀ a ∈ bp, a ∈ b) (him : ∀ a ∈ bp, imgH g a ∈ bq') : IsHom h bp h bq' (cutH bp g) := by
  have hT := okB_term okp
  have hin : ∀ {i}, (varsB bp).testBit i = true → (varsB b).testBit i = true := fun {i} hi => by
    obtain ⟨a, ha, hx⟩ := List.mem_flatMap.1 (varsB_bit.1 hi)
    exact varsB_bit.2 (List.mem_flatMap.2 ⟨a, hs a ha, hx⟩)
  refine ⟨by simp [cutH], fun i hi => ?_, fun a ha => ?_, fun k hk => ?_⟩
  · rw [cutH_get hi]
    split
    · rename_i hb
      have h3 := hG.occ i hi
      rwa [if_pos (hin hb)] at h3
    · rfl
  · have : imgH (cutH bp g) a = imgH g a := by
      unfold imgH
      refine congrArg (Prod.mk a.1) (List.map_congr_left fun x hx => ?_)
      have ht := hT a ha x hx
      unfold imgT
      split
      · rename_i h0
        rw [cutH_get (by omega), if_pos (bit_inB ha hx h0)]
      · rfl
    rw [this]
    exact him a ha
  · have h1 := okQ_headIn okp _ (List.getElem_mem hk)
    rw [cutH_get (by omega), if_pos h1.2]
    exact hG.head k hk
theorem core_elim {h : List Int} {b : List Atm} {c : List Nat} (ok : okQ h b = true) (hB : BestO h b (2 ^ b.length) (some c)) {n : Nat} (hE : Elim (fun i x => (x : Int) ∈ (atB b i).2) (fun i => i < b.length) n) :
    ∃ m, Elim (fun i x => (x : Int) ∈ (atB (partN b c) i).2) (fun i => i < (partN b c).length) m := by
  obtain ⟨⟨okp, g, hG⟩, ⟨sc, -, -, hsc⟩, -⟩ := id hB
  have hcs : c.Sublist (List.range b.length) := by rw [hsc]; exact setL_sub _ _
  have hcn : c.Nodup := List.Pairwise.sublist hcs List.nodup_range
  have hci : ∀ i ∈ c, i < b.length := fun i hi => List.mem_range.1 (hcs.subset hi)
  have hex : ∀ i, ∃ j, i < b.length → j ∈ c ∧ atB b j = imgH g (atB b i) := fun i => by
    by_cases hi : i < b.length
    · have := hG.atoms _ (List.getElem_mem hi)
      obtain ⟨j, hj, e⟩ := mem_partN.1 this
      exact ⟨j, fun _ => ⟨hj, by rw [atB_get hi]; exact e⟩⟩
    · exact ⟨0, fun h => absurd h hi⟩
  obtain ⟨r, hr⟩ := Classical.axiomOfChoice hex
  have hT := okB_term ok
  have hTb : ∀ i, i < b.length → ∀ x ∈ (atB b i).2, -9 ≤ x ∧ x ≤ 7 := fun i hi x hx => by
    rw [atB_get hi] at hx
    exact hT _ (List.getElem_mem hi) x hx
  -- every atom of the core is the image of one
  have hsur : ∀ j ∈ c, ∃ i ∈ c, r i = j := by
    obtain ⟨D, eD⟩ : ∃ D, D = c.filter fun j => c.any fun i => decide (r i = j) := ⟨_, rfl⟩
    have hDm : ∀ j, j ∈ D ↔ j ∈ c ∧ ∃ i ∈ c, r i = j := fun j => by
      rw [eD, List.mem_filter, List.any_eq_true]
      simp only [decide_eq_true_eq]
    have hDs : D.Sublist c := by rw [eD]; exact List.filter_sublist
    have hrD : ∀ i ∈ c, r i ∈ D := fun i hi => (hDm _).2 ⟨(hr i (hci i hi)).1, i, hi, rfl⟩
    have hDb : ∀ a ∈ partN b D, a ∈ b := partN_mem fun i hi => hci i (hDs.subset hi)
    have hq := okQ_len okp
    have okd : okQ h (partN b D) = true := by
      have hb := ok
      simp only [okQ, Bool.and_eq_true, List.all_eq_true, decide_eq_true_eq] at hb ⊢
      have hlen : (partN b c).length = c.length := by simp [partN]
      have hlD : (partN b D).length = D.length := by simp [partN]
      refine ⟨⟨⟨⟨?_, ?_⟩, hb.1.1.2⟩, fun a ha => hb.1.2 a (hDb a ha)⟩, fun x hx => ?_⟩
      · obtain ⟨i, hi⟩ := List.exists_mem_of_length_pos (l := c) (by omega)
        have := List.length_pos_of_mem (hrD i hi)
        omega
      · have := hDs.length_le
        omega
      · have h1 := okQ_headIn okp x hx
        obtain ⟨k, hk, rfl⟩ := List.getElem_of_mem hx
        have h2 := hG.head k hk
        have e : h.getD k 0 = h[k] := by simp [List.getD, hk]
        rw [e] at h2
        obtain ⟨a, ha, hxa⟩ := List.mem_flatMap.1 (varsB_bit.1 h1.2)
        obtain ⟨i, hi, rfl⟩ := mem_partN.1 ha
        have h3 : h[k] ∈ (atB b (r i)).2 := by
          rw [(hr i (hci i hi)).2]
          refine List.mem_map.2 ⟨_, hxa, ?_⟩
          rw [imgT, if_pos (by omega), Int.toNat_natCast]
          exact h2
        simp only [okH, Bool.and_eq_true, decide_eq_true_eq]
        exact ⟨⟨by omega, by omega⟩, bit_inB (mem_partN.2 ⟨r i, hrD i hi, rfl⟩) h3 (by omega)⟩
    have hgd : Good h b D := ⟨okd, _, hom_comp ok okp rfl hG (hom_cut (bq' := partN b D) okp hG (partN_mem hci) fun a ha => by
      obtain ⟨i, hi, rfl⟩ := mem_partN.1 ha
      rw [← (hr i (hci i hi)).2]
      exact mem_partN.2 ⟨_, hrD i hi, rfl⟩)⟩
    have hle : c.length ≤ D.length := Nat.le_of_not_lt fun hlt => core_le hB (hDs.trans hcs) hgd (.inl hlt)
    have : D = c := hDs.eq_of_length_le hle
    intro j hj
    exact ((hDm j).1 (by rw [this]; exact hj)).2
  have hinj := inj_surj hcn hsur
  -- the variables of the core
  obtain ⟨U, eU⟩ : ∃ U : Nat → Prop, U = fun x : Nat => ∃ i ∈ c, (x : Int) ∈ (atB b i).2 := ⟨_, rfl⟩
  have hU8 : ∀ x, U x → x < 8 := fun x hx => by
    rw [eU] at hx
    obtain ⟨i, hi, hx⟩ := hx
    have := hTb i (hci i hi) _ hx
    omega
  have himg : ∀ i, i < b.length → ∀ x : Nat, (x : Int) ∈ (atB b (r i)).2 ↔ ∃ y : Nat, (y : Int) ∈ (atB b i).2 ∧ g.getD y 0 = (x : Int) := fun i hi x => by
    rw [(hr i hi).2]
    unfold imgH
    rw [List.mem_map]
    constructor
    · rintro ⟨t, ht, e⟩
      unfold imgT at e
      split at e
      · rename_i h0
        exact ⟨t.toNat, by rwa [Int.toNat_of_nonneg h0], e⟩
      · omega
    · rintro ⟨y, hy, e⟩
      exact ⟨_, hy, by rw [imgT, if_pos (by omega), Int.toNat_natCast]; exact e⟩
  have hUs : ∀ x, U x → ∃ y, U y ∧ g.getD y 0 = (x : Int) := fun x hx => by
    rw [eU] at hx
    obtain ⟨j, hj, hxj⟩ := hx
    obtain ⟨i, hi, rfl⟩ := hsur j hj
    obtain ⟨y, hy, e⟩ := (himg i (hci i hi) x).1 hxj
    exact ⟨y, by rw [eU]; exact ⟨i, hi, hy⟩, e⟩
  have gin : ∀ y y', U y → U y' → g.getD y 0 = g.getD y' 0 → y = y' := fun y y' hy hy' e => by
    open Classical in
    refine inj_surj (l := (List.range 8).filter fun x => decide (U x)) (List.Pairwise.sublist List.filter_sublist List.nodup_range) (f := fun y => (g.getD y 0).toNat) (fun x hx => ?_) y ?_ y' ?_ (congrArg Int.toNat e)
    · obtain ⟨h1, h2⟩ := List.mem_filter.1 hx
      obtain ⟨z, hz, e2⟩ := hUs x (of_decide_eq_true h2)
      exact ⟨z, List.mem_filter.2 ⟨List.mem_range.2 (hU8 z hz), decide_eq_true hz⟩, (congrArg Int.toNat e2).trans (Int.toNat_natCast x)⟩
    · exact List.mem_filter.2 ⟨List.mem_range.2 (hU8 y hy), decide_eq_true hy⟩
    · exact List.mem_filter.2 ⟨List.mem_range.2 (hU8 y' hy'), decide_eq_true hy'⟩
  -- the sets, cut to these variables and renamed
  have h1 : Elim (fun i x => ∃ y : Nat, (y : Int) ∈ (atB b i).2 ∧ U y ∧ g.getD y 0 = (x : Int)) (fun i => i < b.length) n := by
    refine hE.ears fun S' i k hs he => ⟨he.1, he.2.1, he.2.2.1, fun j hj hne x hx hy => ?_⟩
    obtain ⟨y, y1, y2, y3⟩ := hx
    obtain ⟨z, z1, z2, z3⟩ := hy
    obtain rfl := gin y z y2 z2 (y3.trans z3.symm)
    exact ⟨y, he.2.2.2 j hj hne y y1 z1, y2, y3⟩
  have hcore : ∀ k ∈ c, ∀ x : Nat, (∃ y : Nat, (y : Int) ∈ (atB b k).2 ∧ U y ∧ g.getD y 0 = (x : Int)) ↔ (x : Int) ∈ (atB b (r k)).2 := fun k hk x => by
    rw [himg k (hci k hk) x]
    constructor
    · rintro ⟨y, h1, -, h2⟩
      exact ⟨y, h1, h2⟩
    · rintro ⟨y, h1, h2⟩
      exact ⟨y, h1, by rw [eU]; exact ⟨k, hk, h1⟩, h2⟩
  obtain ⟨m, h2⟩ := h1.keep (T := fun i => i ∈ c) (fun _ h => h) hci fun i hi _ => by
    obtain ⟨k, hk, e⟩ := hsur (r i) (hr i hi).1
    refine ⟨k, hk, fun x hx => ?_⟩
    rw [hcore k hk, e, himg i hi]
    obtain ⟨y, h1, -, h2⟩ := hx
    exact ⟨y, h1, h2⟩
  have hpl : (partN b c).length = c.length := by simp [partN]
  have hix : ∀ j ∈ c, c.idxOf j < c.length ∧ atB (partN b c) (c.idxOf j) = atB b j := fun j hj => by
    have h3 := List.idxOf_lt_length_iff.2 hj
    refine ⟨h3, ?_⟩
    rw [atB_get (by rw [hpl]; exact h3)]
    simp [partN, atB]
  refine ⟨m, h2.ren (f := fun i => c.idxOf (r i)) (fun a b' ha hb e => ?_) (fun a ha x => ?_) fun j' => ?_⟩
  · have e1 := hix _ (hr a (hci a ha)).1
    have e2 := hix _ (hr b' (hci b' hb)).1
    refine hinj a ha b' hb ?_
    have h4 := List.getElem_idxOf e1.1
    have h5 := List.getElem_idxOf e2.1
    rw [← h4, ← h5]
    congr 1
  · skip
    rw [hcore a ha, (hix _ (hr a (hci a ha)).1).2]
  · rw [hpl]
    constructor
    · intro hj
      obtain ⟨i, hi, e⟩ := hsur c[j'] (List.getElem_mem hj)
      refine ⟨i, hi, ?_⟩
      try dsimp only
      rw [e]
      exact hcn.idxOf_getElem j' hj
    · rintro ⟨i, hi, rfl⟩
      exact (hix _ (hr i (hci i hi)).1).1
end Go.Proofs.Ytleiddajojgmmaa
