/- Covers by cliques: along an elimination order one gets as few cliques as an independent set has nodes. No program, no condition. -/
import Derived.Test.YtmpjanpmkmlloaaDoorGc
namespace Go.Proofs.YtmpjanpmkmlloaaDoor
open Go Go.RowKit VC
set_option linter.unusedSimpArgs false
set_option linter.unusedVariables false

/-- What the code takes: along the order, each node that is left with its neighbours that are left. -/
def covT (N : List Nat) : Nat → Nat → List Nat → List Nat
  | _, _, [] => []
  | left, behind, i :: r => if left.testBit i = true then (left &&& ((nb N i &&& nSub behind (2 ^ i)) ||| 2 ^ i)) :: covT N (nSub left (left &&& ((nb N i &&& nSub behind (2 ^ i)) ||| 2 ^ i))) (nSub behind (2 ^ i)) r else covT N left (nSub behind (2 ^ i)) r
/-- A partition of a set into cliques. -/
structure Parts (N : List Nat) (s : Nat) (cs : List Nat) : Prop where
  clq : ∀ c ∈ cs, c ≠ 0 ∧ c < 2 ^ N.length ∧ cliq N c = true
  dis : cs.Pairwise fun a b => a &&& b = 0
  uni : ∀ x, (∃ c ∈ cs, c.testBit x = true) ↔ s.testBit x = true
theorem and_comm0 {a b : Nat} (h : a &&& b = 0) : b &&& a = 0 := by rw [Nat.and_comm]; exact h
theorem covT_spec {N : List Nat} (hN : VN N) : ∀ (r : List Nat) (left behind : Nat), behind < 2 ^ N.length → (∀ x, left.testBit x = true → behind.testBit x = true) → elN N behind (ofN r) = true →
    Parts N left (covT N left behind r) ∧ ∃ I, (∀ x, I.testBit x = true → left.testBit x = true) ∧ free N I = true ∧ pc I = (covT N left behind r).length
  | [], left, behind, hb, hsub, he => by
    have hb0 : behind = 0 := by simpa [elN] using he
    subst hb0
    have h0 : left = 0 := set_zero.2 fun i => by
      cases h : left.testBit i with
      | false => rfl
      | true => have := hsub i h; simp at this
    subst h0
    refine ⟨⟨fun c hc => by (cases hc), List.Pairwise.nil, fun x => ⟨fun ⟨c, hc, _⟩ => by (cases hc), fun h => by simp at h⟩⟩, 0, fun x h => h, ?_, rfl⟩
    rw [free_iff (by omega)]
    intro i hi; simp at hi
  | i :: r, left, behind, hb, hsub, he => by
    have h12 := hN.le
    have hp := hN.pow
    have he' : (decide ((0 : Int) ≤ (i : Int)) && decide ((i : Int) < N.length) && behind.testBit i && cliq N (nb N i &&& nSub behind (2 ^ i)) && elN N (nSub behind (2 ^ i)) (ofN r)) = true := he
    simp only [Bool.and_eq_true, decide_eq_true_eq] at he'
    obtain ⟨⟨⟨⟨_, hi⟩, hbi⟩, hq⟩, her⟩ := he'
    have hil : i < N.length := by omega
    have hq4 : nb N i &&& nSub behind (2 ^ i) < 4096 := Nat.lt_of_le_of_lt Nat.and_le_left (hN.nb_lt' i)
    rw [cliq_iff hq4] at hq
    have hb' : nSub behind (2 ^ i) < 2 ^ N.length := nSub_lt hb
    have bitB : ∀ x, (nSub behind (2 ^ i)).testBit x = true ↔ behind.testBit x = true ∧ x ≠ i := fun x => by
      rw [nSub_bit, two_bit, Bool.and_eq_true, Bool.not_eq_true', decide_eq_false_iff_not]
      exact ⟨fun ⟨a, b⟩ => ⟨a, fun e => b e.symm⟩, fun ⟨a, b⟩ => ⟨a, fun e => b e.symm⟩⟩
    unfold covT
    by_cases hl : left.testBit i = true
    · rw [if_pos hl]
      generalize hc : left &&& ((nb N i &&& nSub behind (2 ^ i)) ||| 2 ^ i) = c
      have bitC : ∀ x, c.testBit x = true ↔ left.testBit x = true ∧ ((E N i x ∧ behind.testBit x = true ∧ x ≠ i) ∨ x = i) := fun x => by
        rw [← hc, Nat.testBit_and, Nat.testBit_or, Nat.testBit_and, two_bit, Bool.and_eq_true, Bool.or_eq_true, Bool.and_eq_true, decide_eq_true_eq, bitB]
        constructor
        · rintro ⟨a, b | b⟩
          · exact ⟨a, .inl b⟩
          · exact ⟨a, .inr b.symm⟩
        · rintro ⟨a, b | b⟩
          · exact ⟨a, .inl b⟩
          · exact ⟨a, .inr b.symm⟩
      have bitL : ∀ x, (nSub left c).testBit x = true ↔ left.testBit x = true ∧ ¬ c.testBit x = true := fun x => by
        rw [nSub_bit, Bool.and_eq_true, Bool.not_eq_true']; simp
      have hci : c.testBit i = true := (bitC i).2 ⟨hl, .inr rfl⟩
      obtain ⟨hP, I, hI1, hI2, hI3⟩ := covT_spec hN r (nSub left c) (nSub behind (2 ^ i)) hb' (fun x hx => by
        obtain ⟨h1, h2⟩ := (bitL x).1 hx
        exact (bitB x).2 ⟨hsub x h1, fun e => by subst e; exact h2 hci⟩) her
      have hclt : c < 2 ^ N.length := sub_al.2 fun x hx => bit_lt hb (hsub x ((bitC x).1 hx).1)
      have hcq : cliq N c = true := by
        rw [cliq_iff (Nat.lt_of_lt_of_le hclt hp)]
        intro a ha d hd hne
        obtain ⟨-, ha⟩ := (bitC a).1 ha
        obtain ⟨-, hd⟩ := (bitC d).1 hd
        rcases ha with ⟨a1, a2, a3⟩ | a1 <;> rcases hd with ⟨d1, d2, d3⟩ | d1
        · have m : ∀ y, E N i y → behind.testBit y = true → y ≠ i → (nb N i &&& nSub behind (2 ^ i)).testBit y = true := fun y h1 h2 h3 => by
            rw [Nat.testBit_and, Bool.and_eq_true]; exact ⟨h1, (bitB y).2 ⟨h2, h3⟩⟩
          exact hq a (m a a1 a2 a3) d (m d d1 d2 d3) hne
        · rw [d1]; exact a1.symm hN
        · rw [a1]; exact d1
        · exact absurd (d1.trans a1.symm) hne
      refine ⟨⟨fun d hd => ?_, List.pairwise_cons.2 ⟨fun d hd => ?_, hP.dis⟩, fun x => ⟨?_, fun hx => ?_⟩⟩, I ||| 2 ^ i, fun x hx => ?_, ?_, ?_⟩
      · rcases List.mem_cons.1 hd with rfl | hd
        · exact ⟨fun e => by rw [e] at hci; simp at hci, hclt, hcq⟩
        · exact hP.clq d hd
      · rw [set_zero]
        intro x
        rw [Nat.testBit_and]
        cases h1 : c.testBit x with
        | false => rfl
        | true =>
          cases h2 : d.testBit x with
          | false => rfl
          | true => exact absurd h1 ((bitL x).1 ((hP.uni x).1 ⟨d, hd, h2⟩)).2
      · rintro ⟨d, hd, hx⟩
        rcases List.mem_cons.1 hd with rfl | hd
        · exact ((bitC x).1 hx).1
        · exact ((bitL x).1 ((hP.uni x).1 ⟨d, hd, hx⟩)).1
      · by_cases h : c.testBit x = true
        · exact ⟨c, List.mem_cons_self .., h⟩
        · obtain ⟨d, hd, hdx⟩ := (hP.uni x).2 ((bitL x).2 ⟨hx, h⟩)
          exact ⟨d, List.mem_cons_of_mem _ hd, hdx⟩
      · rw [Nat.testBit_or, two_bit, Bool.or_eq_true, decide_eq_true_eq] at hx
        rcases hx with h | h
        · exact ((bitL x).1 (hI1 x h)).1
        · rw [← h]; exact hl
      · have hIlt : I < 2 ^ N.length := sub_al.2 fun x hx => bit_lt hb (hsub x ((bitL x).1 (hI1 x hx)).1)
        have hIi : I ||| 2 ^ i < 4096 := Nat.lt_of_lt_of_le (Nat.or_lt_two_pow hIlt (Nat.pow_lt_pow_right (by omega) hil)) hp
        rw [free_iff (Nat.lt_of_lt_of_le hIlt hp)] at hI2
        rw [free_iff hIi]
        have far : ∀ j, I.testBit j = true → ¬ E N i j := fun j hj he => by
          obtain ⟨h1, h2⟩ := (bitL j).1 (hI1 j hj)
          exact h2 ((bitC j).2 ⟨h1, .inl ⟨he, hsub j h1, fun e => (E.ne hN he) e.symm⟩⟩)
        intro a ha d hd
        rw [Nat.testBit_or, two_bit, Bool.or_eq_true, decide_eq_true_eq] at ha hd
        rcases ha with ha | ha <;> rcases hd with hd | hd
        · exact hI2 a ha d hd
        · rw [← hd]
          cases h : (nb N a).testBit i with
          | false => rfl
          | true => exact absurd (E.symm hN h) (far a ha)
        · rw [← ha]
          cases h : (nb N i).testBit d with
          | false => rfl
          | true => exact absurd h (far d hd)
        · rw [← ha, ← hd]; exact hN.irr' _
      · have hIi : I.testBit i = false := by
          cases h : I.testBit i with
          | false => rfl
          | true => exact absurd hci ((bitL i).1 (hI1 i h)).2
        have := pc_sub (s := I ||| 2 ^ i) (i := i) (by rw [Nat.testBit_or, two_bit]; simp) (by omega)
        have e : nSub (I ||| 2 ^ i) (2 ^ i) = I := by
          apply Nat.eq_of_testBit_eq
          intro j
          rw [nSub_bit, Nat.testBit_or, two_bit]
          by_cases e : i = j
          · subst e; simp [hIi]
          · simp [e]
        rw [e] at this
        rw [this, hI3]; rfl
    · rw [if_neg hl]
      obtain ⟨hP, I, hI⟩ := covT_spec hN r left (nSub behind (2 ^ i)) hb' (fun x hx => (bitB x).2 ⟨hsub x hx, fun e => by subst e; exact hl hx⟩) her
      exact ⟨hP, I, hI⟩
/-! ## As few as can be -/
inductive PartC (N : List Nat) : Nat → Nat → Prop
  | zero : PartC N 0 0
  | step {s p k : Nat} : p ≠ 0 → (∀ x, p.testBit x = true → s.testBit x = true) → cliq N p = true → PartC N (nSub s p) k → PartC N s (k + 1)
theorem Parts.count {N : List Nat} : ∀ (cs : List Nat) (s : Nat), Parts N s cs → PartC N s cs.length
  | [], s, h => by
    have : s = 0 := set_zero.2 fun i => by
      cases hb : s.testBit i with
      | false => rfl
      | true =>
        obtain ⟨c, hc, _⟩ := (h.uni i).2 hb
        cases hc
    subst this
    exact .zero
  | c :: r, s, h => by
    obtain ⟨h1, h2⟩ := List.pairwise_cons.1 h.dis
    have hc := h.clq c (List.mem_cons_self ..)
    refine .step hc.1 (fun x hx => (h.uni x).1 ⟨c, List.mem_cons_self .., hx⟩) hc.2.2 (Parts.count r _ ⟨fun d hd => h.clq d (List.mem_cons_of_mem _ hd), h2, fun x => ?_⟩)
    rw [nSub_bit, Bool.and_eq_true, Bool.not_eq_true', ← h.uni]
    constructor
    · rintro ⟨d, hd, hx⟩
      refine ⟨⟨d, List.mem_cons_of_mem _ hd, hx⟩, ?_⟩
      have := set_zero.1 (h1 d hd) x
      rw [Nat.testBit_and, hx, Bool.and_true] at this
      exact this
    · rintro ⟨⟨d, hd, hx⟩, hn⟩
      rcases List.mem_cons.1 hd with rfl | hd
      · rw [hn] at hx; cases hx
      · exact ⟨d, hd, hx⟩
theorem PartC.ge {N : List Nat} (hN : VN N) {s k : Nat} (h : PartC N s k) : ∀ I, s < 2 ^ N.length → (∀ x, I.testBit x = true → s.testBit x = true) → free N I = true → pc I ≤ k := by
  have hp := hN.pow
  have h12 := hN.le
  induction h with
  | zero =>
    intro I _ hsub _
    have : I = 0 := set_zero.2 fun i => by
      cases hb : I.testBit i with
      | false => rfl
      | true => have := hsub i hb; simp at this
    subst this
    exact Nat.le_refl _
  | @step s p k h0 hps hq _ ih =>
    intro I hs hsub hfree
    have hIlt : I < 2 ^ N.length := sub_al.2 fun x hx => bit_lt hs (hsub x hx)
    have hplt : p < 2 ^ N.length := sub_al.2 fun x hx => bit_lt hs (hps x hx)
    have hfree' := (free_iff (Nat.lt_of_lt_of_le hIlt hp)).1 hfree
    have hq' := (cliq_iff (Nat.lt_of_lt_of_le hplt hp)).1 hq
    have hJ := ih (nSub I p) (nSub_lt hs) (fun x hx => by
      rw [nSub_bit, Bool.and_eq_true] at hx ⊢
      exact ⟨hsub x hx.1, hx.2⟩) ((free_iff (Nat.lt_of_lt_of_le (nSub_lt hIlt) hp)).2 fun i hi j hj => by
      rw [nSub_bit, Bool.and_eq_true] at hi hj
      exact hfree' i hi.1 j hj.1)
    by_cases hex : ∃ a, I.testBit a = true ∧ p.testBit a = true
    · obtain ⟨a, ha, hap⟩ := hex
      have h1 := pc_sub ha (by have := bit_lt hIlt ha; omega)
      have h2 : pc (nSub I (2 ^ a)) ≤ pc (nSub I p) := pc_mono fun x _ hx => by
        rw [nSub_bit, two_bit, Bool.and_eq_true, Bool.not_eq_true', decide_eq_false_iff_not] at hx
        rw [nSub_bit, Bool.and_eq_true, Bool.not_eq_true']
        refine ⟨hx.1, ?_⟩
        cases hpx : p.testBit x with
        | false => rfl
        | true =>
          have := hq' a hap x hpx fun e => hx.2 e.symm
          rw [hfree' a ha x hx.1] at this; cases this
      omega
    · have : pc I ≤ pc (nSub I p) := pc_mono fun x _ hx => by
        rw [nSub_bit, Bool.and_eq_true, Bool.not_eq_true']
        refine ⟨hx, ?_⟩
        cases hpx : p.testBit x with
        | false => rfl
        | true => exact absurd ⟨x, hx, hpx⟩ hex
      omega
theorem partC_ex {N : List Nat} (hN : VN N) : ∀ (k s : Nat), s < 2 ^ N.length → pc s ≤ k → ∃ m, m ≤ pc s ∧ PartC N s m
  | 0, s, hs, hk => by
    have : s = 0 := (pc_zero (Nat.lt_of_lt_of_le hs hN.pow)).1 (by omega)
    subst this
    exact ⟨0, Nat.zero_le _, .zero⟩
  | k + 1, s, hs, hk => by
    have h12 := hN.le
    by_cases h0 : s = 0
    · subst h0; exact ⟨0, Nat.zero_le _, .zero⟩
    · have hex : ∃ y, s.testBit y = true := Classical.byContradiction fun hn => h0 (set_zero.2 fun i => by
        cases hb : s.testBit i with
        | false => rfl
        | true => exact absurd ⟨i, hb⟩ hn)
      obtain ⟨y, hy⟩ := hex
      have hyl := bit_lt hs hy
      have h1 := pc_sub hy (by omega)
      obtain ⟨m, hm, hpm⟩ := partC_ex hN k (nSub s (2 ^ y)) (nSub_lt hs) (by omega)
      refine ⟨m + 1, by omega, .step (p := 2 ^ y) (by have : 0 < 2 ^ y := Nat.pow_pos (by omega); omega) (fun x hx => ?_) ?_ hpm⟩
      · rw [two_bit, decide_eq_true_eq] at hx
        rw [← hx]; exact hy
      · rw [cliq_iff (Nat.lt_of_lt_of_le (Nat.pow_lt_pow_right (by omega) hyl) hN.pow)]
        intro i hi j hj hne
        rw [two_bit, decide_eq_true_eq] at hi hj
        exact absurd (hj.symm.trans hi) hne
open Classical in
/-- How few cliques a set can be parted into. -/
noncomputable def mcv (N : List Nat) (s : Nat) : Nat := if h : ∃ m, PartC N s m then (exists_least h.choose h.choose_spec).choose else 0
theorem mcv_spec {N : List Nat} (hN : VN N) {s : Nat} (hs : s < 2 ^ N.length) : PartC N s (mcv N s) ∧ mcv N s ≤ 12 ∧ ∀ k, PartC N s k → mcv N s ≤ k := by
  obtain ⟨m, hm, hpm⟩ := partC_ex hN (pc s) s hs (Nat.le_refl _)
  have h : ∃ m, PartC N s m := ⟨m, hpm⟩
  have hsp := (exists_least h.choose h.choose_spec).choose_spec
  have e : mcv N s = (exists_least h.choose h.choose_spec).choose := by unfold mcv; rw [dif_pos h]
  have hmin : ∀ k, PartC N s k → mcv N s ≤ k := fun k hk => Nat.le_of_not_lt fun hlt => hsp.2 k (by rw [← e]; exact hlt) hk
  refine ⟨by rw [e]; exact hsp.1, Nat.le_trans (hmin m hpm) (Nat.le_trans hm (pc_le s)), hmin⟩
theorem mcv_zero {N : List Nat} (hN : VN N) : mcv N 0 = 0 := by
  have := (mcv_spec hN (s := 0) (Nat.pow_pos (by omega))).2.2 0 .zero
  omega
/-- One clique more than what it leaves needs, at the best. -/
theorem mcv_step {N : List Nat} (hN : VN N) {s : Nat} (hs : s < 2 ^ N.length) (h0 : s ≠ 0) : ∃ p, p ≠ 0 ∧ (∀ x, p.testBit x = true → s.testBit x = true) ∧ cliq N p = true ∧ mcv N s = mcv N (nSub s p) + 1 := by
  obtain ⟨h1, -, h3⟩ := mcv_spec hN hs
  generalize hm : mcv N s = m at h1
  cases h1 with
  | zero => exact absurd rfl h0
  | @step _ p k hp hps hq hk =>
    refine ⟨p, hp, hps, hq, ?_⟩
    have h4 := (mcv_spec hN (s := nSub s p) (nSub_lt hs)).2.2 k hk
    have h5 := h3 _ (.step hp hps hq (mcv_spec hN (nSub_lt hs)).1)
    omega
theorem mcv_le {N : List Nat} (hN : VN N) {s p : Nat} (hs : s < 2 ^ N.length) (hp : p ≠ 0) (hps : ∀ x, p.testBit x = true → s.testBit x = true) (hq : cliq N p = true) : mcv N s ≤ mcv N (nSub s p) + 1 :=
  (mcv_spec hN hs).2.2 _ (.step hp hps hq (mcv_spec hN (nSub_lt hs)).1)
theorem covT_least {N : List Nat} (hN : VN N) {r : List Nat} (hr : ordG N = some r) : (covT N (al N) (al N) r).length = mcv N (al N) ∧ (covT N (al N) (al N) r).length = pc (alp N) := by
  obtain ⟨hP, I, hI1, hI2, hI3⟩ := covT_spec hN r (al N) (al N) (al_lt N) (fun _ h => h) (ordG_el hN hr)
  have hc := Parts.count _ _ hP
  obtain ⟨m1, -, m3⟩ := mcv_spec hN (al_lt N)
  have h1 := m3 _ hc
  have h2 := m1.ge hN I (al_lt N) hI1 hI2
  have hIlt : I < 2 ^ N.length := sub_al.2 fun x hx => by
    have := hI1 x hx
    rw [al_bit] at this; simpa using this
  have h3 : pc I ≤ pc (alp N) := bestN_max hIlt hI2
  have hfree0 : free N 0 = true := by
    rw [free_iff (by omega)]
    intro i hi; simp at hi
  have h4 := hc.ge hN (alp N) (al_lt N) (fun x hx => by
    rw [al_bit]
    have : alp N < 2 ^ N.length := bestN_lt (Nat.pow_pos (by omega))
    simpa using bit_lt this hx) (bestN_ok hfree0 _)
  omega
/-! ## All parts of a set, from above -/
theorem sub_le {q s : Nat} (h : ∀ x, q.testBit x = true → s.testBit x = true) : q ≤ s := by
  have : q &&& s = q := by
    apply Nat.eq_of_testBit_eq
    intro i
    rw [Nat.testBit_and]
    cases hb : q.testBit i with
    | false => rfl
    | true => rw [h i hb]; rfl
  rw [← this]; exact Nat.and_le_right
theorem odd_part : ∀ n : Nat, n ≠ 0 → ∃ b h, n = 2 ^ b * (2 * h + 1) := by
  intro n
  induction n using Nat.strongRecOn with
  | ind n ih =>
    intro hn
    rcases Nat.mod_two_eq_zero_or_one n with h | h
    · obtain ⟨b, k, e⟩ := ih (n / 2) (by omega) (by omega)
      refine ⟨b + 1, k, ?_⟩
      rw [Nat.pow_succ, Nat.mul_right_comm, Nat.mul_comm, ← e]
      omega
    · exact ⟨0, n / 2, by simp; omega⟩
/-- The next part below. -/
theorem next_part {s part q : Nat} (h0 : part ≠ 0) (hps : ∀ x, part.testBit x = true → s.testBit x = true) (hq : ∀ x, q.testBit x = true → s.testBit x = true) (hlt : q < part) : q ≤ (part - 1) &&& s := by
  obtain ⟨b, h, e⟩ := odd_part part h0
  have hB : 0 < 2 ^ b := Nat.pow_pos (by omega)
  have em : part - 1 = 2 ^ b * (2 * h) + (2 ^ b - 1) := by rw [e, Nat.mul_add, Nat.mul_one]; omega
  have bit1 : ∀ i, (part - 1).testBit i = if i < b then true else (2 * h).testBit (i - b) := fun i => by
    rw [em, Nat.testBit_two_pow_mul_add _ (by omega)]
    split
    · rw [Nat.testBit_two_pow_sub_one]; simpa using ‹i < b›
    · rfl
  have bitp : ∀ i, part.testBit i = if i < b then false else (2 * h + 1).testBit (i - b) := fun i => by
    have : part = 2 ^ b * (2 * h + 1) + 0 := by rw [e]; rfl
    rw [this, Nat.testBit_two_pow_mul_add _ hB]
    split
    · simp
    · rfl
  have hi2 : ∀ j, (2 * h).testBit j = true → (2 * h + 1).testBit j = true := fun j hj => by
    cases j with
    | zero => simp
    | succ j =>
      rw [Nat.testBit_succ] at hj ⊢
      rw [show (2 * h + 1) / 2 = h by omega]
      rwa [show 2 * h / 2 = h by omega] at hj
  by_cases hx : q / 2 ^ b < 2 * h
  · -- q ends below the part's head
    have h1 : 2 ^ b * (2 * h) ≤ (part - 1) &&& s := sub_le fun i hi => by
      have : 2 ^ b * (2 * h) = 2 ^ b * (2 * h) + 0 := rfl
      rw [this, Nat.testBit_two_pow_mul_add _ hB] at hi
      split at hi
      · simp at hi
      · rename_i hib
        rw [Nat.testBit_and, Bool.and_eq_true, bit1, if_neg hib]
        exact ⟨hi, hps i (by rw [bitp, if_neg hib]; exact hi2 _ hi)⟩
    have h2 : q < 2 ^ b * (q / 2 ^ b + 1) := by
      have := Nat.div_add_mod q (2 ^ b)
      have := Nat.mod_lt q hB
      rw [Nat.mul_add, Nat.mul_one]; omega
    have h3 : 2 ^ b * (q / 2 ^ b + 1) ≤ 2 ^ b * (2 * h) := Nat.mul_le_mul_left _ (by omega)
    omega
  · have hx2 : q / 2 ^ b = 2 * h := by
      have h1 : q / 2 ^ b < 2 * h + 1 := Nat.div_lt_of_lt_mul (by rw [← e]; exact hlt)
      omega
    refine sub_le fun i hi => ?_
    rw [Nat.testBit_and, Bool.and_eq_true]
    refine ⟨?_, hq i hi⟩
    rw [bit1]
    split
    · rfl
    · rename_i hib
      have : (q / 2 ^ b).testBit (i - b) = true := by
        rw [Nat.testBit_div_two_pow, show i - b + b = i by omega]; exact hi
      rwa [hx2] at this
end Go.Proofs.YtmpjanpmkmlloaaDoor
