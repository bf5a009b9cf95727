/- Contracts of the reference: independent sets, ways, three nodes that are apart. The table of bits is laid (Tab). -/
import Derived.Test.YtmpjanpmkmlloaaDoorCq
import Derived.Test.YtmpjanpmkmlloaaDoorGi
namespace Go.Proofs.YtmpjanpmkmlloaaDoor
open Go Go.RowKit VC
set_option linter.unusedSimpArgs false
set_option linter.unusedVariables false

theorem refFree_c {w : World} {v : Value} {N : List Nat} (hs : SlI w v (ofN N)) (hN : VN N) {s : Nat} (hl : s < 2 ^ N.length) : Calls Tryd.prog 100 #[v, .int .i64 (s : Int)] w (Ret w (.bool (free N s))) := by
  refine f100_calls _ _ ?_
  have hs4 : s < 4096 := Nat.lt_of_lt_of_le hl hN.pow
  have hle := hN.le
  refine hs.ln ⟨fun t w' => ∃ k : Nat, t = k ∧ k ≤ N.length ∧ Grow w w' ∧ ∀ i, i < k → s.testBit i = true → s &&& nb N i = 0, fun t _ => N.length - t.toNat, ⟨0, rfl, by omega, Grow.refl w, fun i h => by omega⟩, ?_⟩
  rintro - t w1 ⟨k, rfl, hk, hg, hall⟩
  refine condD (fun hlt => ?_) (fun hge => ?_)
  · have hkl : k < N.length := by simpa using hlt
    refine ⟨by omega, ?_⟩
    rw [iBit _ (by omega), ibit_nat]
    refine condD (fun hb => (hs.grow hg).rd rfl (by simpa using hkl) ?_) fun hb => ?_
    · have hbit : s.testBit k = true := by cases h : s.testBit k with | true => rfl | false => simp [h] at hb
      rw [ofN_get, nb_get, and_expr hs4 (hN.nb_lt' k)]
      refine condP_i (fun h => ⟨?_, hg⟩) fun h => ?_
      · have : free N s = false := by
          simp only [free, List.all_eq_false, List.mem_range]
          refine ⟨k, by omega, ?_⟩
          simp [hbit]
          simp at h
          omega
        rw [this]
      · refine ⟨by unfold inR; omega, ⟨k + 1, by omega, by omega, hg, fun i hi hb => ?_⟩, by dsimp only; omega⟩
        by_cases e : i = k
        · subst e; simp at h; omega
        · exact hall i (by omega) hb
    · have hbit : s.testBit k = false := by cases h : s.testBit k with | true => simp [h] at hb | false => rfl
      refine ⟨by unfold inR; omega, ⟨k + 1, by omega, by omega, hg, fun i hi hb2 => ?_⟩, by dsimp only; omega⟩
      by_cases e : i = k
      · subst e; rw [hbit] at hb2; cases hb2
      · exact hall i (by omega) hb2
  · refine ⟨?_, hg⟩
    have : free N s = true := by
      simp only [free, List.all_eq_true, List.mem_range, Bool.or_eq_true, Bool.not_eq_true', beq_iff_eq]
      intro i _
      cases hb : s.testBit i with
      | false => exact .inl rfl
      | true =>
        have hil := bit_lt hl hb
        have : k = N.length := by have h1 : ¬ (k : Int) < ((ofN N).length : Int) := hge; simp at h1; omega
        exact .inr (hall i (by omega) hb)
    rw [this]
theorem pc_len {N : List Nat} (hN : VN N) {s : Nat} (h : s < 2 ^ N.length) : pc s ≤ N.length := by
  rw [← pc_al hN]
  exact pc_mono fun i _ hi => by rw [al_bit]; simpa using bit_lt h hi
theorem linked_c {w : World} {v : Value} {N : List Nat} (hs : SlI w v (ofN N)) (hN : VN N) {a b T : Nat} (ha : a < N.length) (hb : b < N.length) (hT : T < 2 ^ N.length) {r : Bool} (hr : r = true ↔ Rch N (fun j => T.testBit j = true) a b) :
    Calls Tryd.prog 109 #[v, .int .i64 (a : Int), .int .i64 (b : Int), .int .i64 (T : Int)] w (Ret w (.bool r)) := by
  refine f109_calls _ _ _ _ ?_
  have h12 := hN.le
  have hp := hN.pow
  have ha12 : 2 ^ a < 2 ^ N.length := Nat.pow_lt_pow_right (by omega) ha
  let cl := fun m : Nat => ∀ i, m.testBit i = true → ∀ j, E N i j → T.testBit j = true → m.testBit j = true
  refine ⟨by omega, hs.ln ?_⟩
  rw [ofN_len, iShl_one (by omega), and_expr (by omega) (by omega)]
  have hm0 : 2 ^ a &&& T < 2 ^ N.length := Nat.lt_of_le_of_lt Nat.and_le_left ha12
  have bit0 : ∀ j, (2 ^ a &&& T).testBit j = true ↔ j = a ∧ T.testBit a = true := fun j => by
    rw [Nat.testBit_and, two_bit, Bool.and_eq_true, decide_eq_true_eq]
    constructor
    · rintro ⟨rfl, h⟩; exact ⟨rfl, h⟩
    · rintro ⟨rfl, h⟩; exact ⟨rfl, h⟩
  refine ⟨fun met t w' => ∃ (k m : Nat), t = k ∧ k ≤ N.length ∧ met = (m : Int) ∧ m < 2 ^ N.length ∧ (∀ j, m.testBit j = true → Rch N (fun j => T.testBit j = true) a j) ∧ (T.testBit a = true → m.testBit a = true) ∧ (cl m ∨ k < pc m) ∧ Grow w w',
    fun _ t _ => N.length - t.toNat, ⟨0, _, rfl, by omega, rfl, hm0, fun j hj => ?_, fun h => (bit0 a).2 ⟨rfl, h⟩, ?_, Grow.refl w⟩, ?_⟩
  · obtain ⟨rfl, h⟩ := (bit0 j).1 hj
    exact .base h
  · cases h : T.testBit a with
    | true =>
      refine .inr ?_
      have := pc_sub ((bit0 a).2 ⟨rfl, h⟩) (by omega)
      omega
    | false => exact .inl fun i hi => by have := ((bit0 i).1 hi).2; rw [h] at this; cases this
  rintro - met t w1 ⟨k, m0, rfl, hk, rfl, hm0l, hR0, ha0, hpr, g1⟩
  refine condD (fun hlt => (hs.grow g1).ln ?_) (fun hge => ?_)
  · rw [ofN_len]
    refine ⟨fun met t w' => ∃ (i m : Nat), t = i ∧ i ≤ N.length ∧ met = (m : Int) ∧ m < 2 ^ N.length ∧ (∀ j, m.testBit j = true → Rch N (fun j => T.testBit j = true) a j) ∧ (∀ j, m0.testBit j = true → m.testBit j = true) ∧ (∀ x, x < i → m0.testBit x = true → ∀ j, E N x j → T.testBit j = true → m.testBit j = true) ∧ (cl m0 → m = m0) ∧ Grow w w',
      fun _ t _ => N.length - t.toNat, ⟨0, m0, rfl, by omega, rfl, hm0l, hR0, fun _ h => h, fun x h => by omega, fun _ => rfl, g1⟩, ?_⟩
    rintro - met t w2 ⟨i, m, rfl, hi, rfl, hm, hmR, hsub, hdone, hcl, g2⟩
    refine condD (fun hlt2 => ⟨by omega, ?_⟩) (fun hge2 => ?_)
    · have hil : i < N.length := by omega
      rw [iBit _ (by omega), ibit_nat]
      refine condD (fun hb1 => (hs.grow g2).rd rfl (by simpa using hil) ?_) (fun hb1 => ?_)
      · have hbit : m.testBit i = true := by cases h : m.testBit i with | true => rfl | false => simp [h] at hb1
        have hal : nb N i &&& T < 2 ^ N.length := Nat.lt_of_le_of_lt Nat.and_le_left (hN.nb_lt i)
        rw [ofN_get, nb_get, and_expr (hN.nb_lt' i) (by omega), iOr_nat (by omega) (by omega)]
        have bit : ∀ j, (m ||| (nb N i &&& T)).testBit j = true ↔ m.testBit j = true ∨ (E N i j ∧ T.testBit j = true) := fun j => by
          rw [Nat.testBit_or, Bool.or_eq_true, Nat.testBit_and, Bool.and_eq_true]; rfl
        refine ⟨by unfold inR; omega, ⟨i + 1, _, by omega, by omega, rfl, Nat.or_lt_two_pow hm hal, fun j hj => ?_, fun j hj => (bit j).2 (.inl (hsub j hj)), fun x hx hx0 j he hj => ?_, fun hc => ?_, g2⟩, by dsimp only; omega⟩
        · rcases (bit j).1 hj with h | h
          · exact hmR j h
          · exact .step (hmR i hbit) h.1 h.2
        · by_cases e : x = i
          · subst e; exact (bit j).2 (.inr ⟨he, hj⟩)
          · exact (bit j).2 (.inl (hdone x (by omega) hx0 j he hj))
        · have hmm := hcl hc
          rw [hmm] at bit hbit ⊢
          apply Nat.eq_of_testBit_eq
          intro j
          rw [Bool.eq_iff_iff, bit j]
          exact ⟨fun h => h.elim id fun h => hc i hbit j h.1 h.2, .inl⟩
      · have hbit : m.testBit i = false := by cases h : m.testBit i with | true => simp [h] at hb1 | false => rfl
        refine ⟨by unfold inR; omega, ⟨i + 1, m, by omega, by omega, rfl, hm, hmR, hsub, fun x hx hx0 j he hj => ?_, hcl, g2⟩, by dsimp only; omega⟩
        by_cases e : x = i
        · subst e; rw [hsub x hx0] at hbit; cases hbit
        · exact hdone x (by omega) hx0 j he hj
    · have hiN : i = N.length := by omega
      subst hiN
      have hclosed : m = m0 → cl m0 := fun e x hx j he hj => by
        have := hdone x (bit_lt hm0l hx) hx j he hj
        rw [e] at this; exact this
      refine ⟨by unfold inR; omega, ⟨k + 1, m, by omega, by omega, rfl, hm, hmR, fun h => hsub _ (ha0 h), ?_, g2⟩, by dsimp only; omega⟩
      by_cases e : m = m0
      · exact .inl (by rw [e]; exact hclosed e)
      · refine .inr ?_
        have h1 := pc_grow (Nat.lt_of_lt_of_le hm hp) hsub e
        rcases hpr with h | h
        · exact absurd (hcl h) e
        · omega
  · have hkN : k = N.length := by omega
    subst hkN
    have hc : cl m0 := by
      rcases hpr with h | h
      · exact h
      · have := pc_len hN hm0l; omega
    have key : ∀ c, Rch N (fun j => T.testBit j = true) a c → m0.testBit c = true := fun c h => by
      clear hr hb
      induction h with
      | base h => exact ha0 h
      | step h1 he ht ih => exact hc _ ih _ he ht
    refine ⟨by omega, ?_⟩
    have hres : decide (iAnd .i64 (iShr .i64 (m0 : Int) (b : Int)) 1 = 1) = r := by
      rw [iBit _ (by omega), ibit_nat, Bool.eq_iff_iff, hr, decide_eq_true_eq]
      constructor
      · intro h
        refine hR0 b ?_
        cases hbb : m0.testBit b with | true => rfl | false => simp [hbb] at h
      · intro h
        have : m0.testBit b = true := key b h
        simp [this]
    rw [hres]
    exact ⟨rfl, g1⟩
end Go.Proofs.YtmpjanpmkmlloaaDoor
