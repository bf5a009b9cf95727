/- Clique trees: the greatest cliques, added one by one by the greatest intersection, make one (Prim; Bernstein and Goodman). No program, no condition. -/
import Derived.Test.YtmpjanpmkmlloaaDoorGn
namespace Go.Proofs.YtmpjanpmkmlloaaDoor
open Go Go.RowKit VC
set_option linter.unusedSimpArgs false
set_option linter.unusedVariables false

theorem Rch.mono {N : List Nat} {t t' : Nat → Prop} {a b : Nat} (h : Rch N t a b) (hm : ∀ x, t x → t' x) : Rch N t' a b := by
  induction h with
  | base h => exact .base (hm _ h)
  | step _ he ht ih => exact .step ih he (hm _ ht)
theorem Rch.trans {N : List Nat} {t : Nat → Prop} {a b c : Nat} (h : Rch N t a b) (k : Rch N t b c) : Rch N t a c := by
  induction k with
  | base _ => exact h
  | step _ he ht ih => exact .step ih he ht
/-- A connected set beside a clique of its neighbours has a node that is a neighbour of all of them. -/
theorem full {N : List Nat} (hN : VN N) (hno : ∀ l, ¬ HoleP N l) {Z : Nat} (hZ : Z < 2 ^ N.length) (hq : Clq N Z) : ∀ (k K : Nat), K < 2 ^ N.length → pc K ≤ k → K ≠ 0 → (∀ x, K.testBit x = true → Z.testBit x = false) →
    (∀ a b, K.testBit a = true → K.testBit b = true → Rch N (fun j => K.testBit j = true) a b) → (∀ z, Z.testBit z = true → ∃ y, K.testBit y = true ∧ E N y z) → ∃ y, K.testBit y = true ∧ ∀ z, Z.testBit z = true → E N y z := by
  intro k
  induction k with
  | zero =>
    intro K hK hk h0
    exact absurd ((pc_zero (Nat.lt_of_lt_of_le hK hN.pow)).1 (by omega)) h0
  | succ k ih =>
    intro K hK hk h0 hdis hcon hnb
    have h12 := hN.le
    have hex : ∃ y, K.testBit y = true := Classical.byContradiction fun hn => h0 (set_zero.2 fun i => by
      cases hb : K.testBit i with
      | false => rfl
      | true => exact absurd ⟨i, hb⟩ hn)
    by_cases hall : ∀ y z, K.testBit y = true → Z.testBit z = true → E N y z
    · obtain ⟨y, hy⟩ := hex
      exact ⟨y, hy, fun z hz => hall y z hy hz⟩
    have hbad : ∃ w v, K.testBit w = true ∧ Z.testBit v = true ∧ ¬ E N w v := Classical.byContradiction fun hn => hall fun y z hy hz => Classical.byContradiction fun he => hn ⟨y, z, hy, hz, he⟩
    obtain ⟨w, v, hw, hv, hwv⟩ := hbad
    have bitS : ∀ x, (K ||| Z).testBit x = true ↔ K.testBit x = true ∨ Z.testBit x = true := fun x => by rw [Nat.testBit_or, Bool.or_eq_true]
    have hwv' : w ≠ v := fun e => by subst e; rw [hdis _ hw] at hv; cases hv
    obtain ⟨z, hz, hzv, hzE, hzq⟩ := dirac hN hno (pc (K ||| Z)) (K ||| Z) (Nat.or_lt_two_pow hK hZ) (Nat.le_refl _) v w ((bitS v).2 (.inr hv)) ((bitS w).2 (.inl hw)) hwv' fun e => hwv (e.symm hN)
    have hzK : K.testBit z = true := by
      rcases (bitS z).1 hz with h | h
      · exact h
      · exact absurd (hq v hv z h hzv) hzE
    by_cases hone : ∃ y, K.testBit y = true ∧ y ≠ z
    · have hz12 := bit_lt hK hzK
      have bit' : ∀ x, (nSub K (2 ^ z)).testBit x = true ↔ K.testBit x = true ∧ x ≠ z := fun x => by
        rw [nSub_bit, two_bit, Bool.and_eq_true, Bool.not_eq_true', decide_eq_false_iff_not]
        exact ⟨fun ⟨a, b⟩ => ⟨a, fun e => b e.symm⟩, fun ⟨a, b⟩ => ⟨a, fun e => b e.symm⟩⟩
      have nbs : ∀ a b, E N z a → E N z b → (K ||| Z).testBit a = true → (K ||| Z).testBit b = true → a ≠ b → E N a b := fun a b ha hb ha' hb' hne =>
        hzq a (by rw [Nat.testBit_and, ha']; simpa [E] using ha) b (by rw [Nat.testBit_and, hb']; simpa [E] using hb) fun e => hne e.symm
      have step : ∀ a b, Rch N (fun j => K.testBit j = true) a b → a ≠ z → (b ≠ z → Rch N (fun j => (nSub K (2 ^ z)).testBit j = true) a b) ∧ (b = z → ∃ c, E N c z ∧ Rch N (fun j => (nSub K (2 ^ z)).testBit j = true) a c) := by
        intro a b h haz
        induction h with
        | base h => exact ⟨fun _ => .base ((bit' a).2 ⟨h, haz⟩), fun e => absurd e haz⟩
        | @step c d h1 he ht ih =>
          refine ⟨fun hd => ?_, fun hd => ?_⟩
          · by_cases hc : c = z
            · obtain ⟨c', hc', hr⟩ := ih.2 hc
              by_cases e : d = c'
              · subst e; exact hr
              · subst hc
                have hc'm := ((bit' c').1 hr.mem).1
                exact .step hr (nbs c' d (hc'.symm hN) he ((bitS c').2 (.inl hc'm)) ((bitS d).2 (.inl ht)) fun e' => e e'.symm) ((bit' d).2 ⟨ht, hd⟩)
            · exact .step (ih.1 hc) he ((bit' d).2 ⟨ht, hd⟩)
          · subst hd
            exact ⟨c, he, ih.1 fun e => E.ne hN he e⟩
      obtain ⟨y0, hy0, hy0z⟩ := hone
      obtain ⟨y, hy, hyz⟩ := ih (nSub K (2 ^ z)) (nSub_lt hK) (by have := pc_sub hzK (by omega); omega) (fun e => by
          have := (bit' y0).2 ⟨hy0, hy0z⟩
          rw [e] at this; simp at this) (fun x hx => hdis x ((bit' x).1 hx).1) (fun a b ha hb => (step a b (hcon a b ((bit' a).1 ha).1 ((bit' b).1 hb).1) ((bit' a).1 ha).2).1 ((bit' b).1 hb).2) (fun x hx => by
          obtain ⟨y, hy, he⟩ := hnb x hx
          by_cases e : y = z
          · subst e
            obtain ⟨c, hc, hr⟩ := (step y0 y (hcon y0 y hy0 hy) hy0z).2 rfl
            have hcm := (bit' c).1 hr.mem
            refine ⟨c, hr.mem, nbs c x (hc.symm hN) he ((bitS c).2 (.inl hcm.1)) ((bitS x).2 (.inr hx)) fun e' => ?_⟩
            subst e'
            rw [hdis _ hcm.1] at hx; cases hx
          · exact ⟨y, (bit' y).2 ⟨hy, e⟩, he⟩)
      exact ⟨y, ((bit' y).1 hy).1, hyz⟩
    · refine ⟨z, hzK, fun x hx => ?_⟩
      obtain ⟨y, hy, he⟩ := hnb x hx
      have : y = z := Classical.byContradiction fun e => hone ⟨y, hy, e⟩
      rw [← this]; exact he
/-! ## One more clique -/
def Un (L A : List Nat) (x : Nat) : Prop := ∃ c ∈ A, (gn L c).testBit x = true
/-- What stays true of the cliques that are in. -/
structure InT (N A : List Nat) : Prop where
  lt : ∀ a ∈ A, a < (mcl N).length
  one : ∀ Q, Q < 2 ^ N.length → Clq N Q → (∀ x, Q.testBit x = true → Un (mcl N) A x) → ∃ c ∈ A, ∀ x, Q.testBit x = true → (gn (mcl N) c).testBit x = true
  two : ∀ b y y' a a', Rch N (fun j => ¬ Un (mcl N) A j) b y → Rch N (fun j => ¬ Un (mcl N) A j) b y' → E N y a → E N y' a' → Un (mcl N) A a → Un (mcl N) A a' → a ≠ a' → E N a a'
theorem clq_at {N : List Nat} (hN : VN N) {c : Nat} (hc : c < (mcl N).length) : Clq N (gn (mcl N) c) ∧ gn (mcl N) c < 2 ^ N.length ∧ maxq N (gn (mcl N) c) = true := by
  obtain ⟨a, b, d⟩ := mem_mcl.1 (mem_gn.2 ⟨c, hc, rfl⟩ : gn (mcl N) c ∈ mcl N)
  have := d
  unfold maxq at this
  rw [Bool.and_eq_true] at this
  exact ⟨(cliq_iff (Nat.lt_of_lt_of_le a hN.pow)).1 this.1, a, d⟩
theorem InT.zero {N : List Nat} (hN : VN N) (h0 : 0 < (mcl N).length) : InT N [0] := by
  have hc := clq_at hN h0
  have un : ∀ x, Un (mcl N) [0] x ↔ (gn (mcl N) 0).testBit x = true := fun x => ⟨fun ⟨c, h1, h2⟩ => by
    have : c = 0 := by simpa using h1
    subst this; exact h2, fun h => ⟨0, by simp, h⟩⟩
  refine ⟨fun a ha => by have : a = 0 := by simpa using ha
                         omega, fun Q _ _ hQ => ⟨0, by simp, fun x hx => (un x).1 (hQ x hx)⟩, fun b y y' a a' _ _ _ _ ha ha' hne => hc.1 a ((un a).1 ha) a' ((un a').1 ha') fun e => hne e.symm⟩
theorem InT.next {N : List Nat} (hN : VN N) (hno : ∀ l, ¬ HoleP N l) {A : List Nat} (h : InT N A) {i k : Nat} (hi : i < (mcl N).length) (hiA : i ∉ A) (hk : k ∈ A)
    (hmax : ∀ e, e < (mcl N).length → e ∉ A → ∀ c ∈ A, pc (gn (mcl N) e &&& gn (mcl N) c) ≤ pc (gn (mcl N) i &&& gn (mcl N) k)) :
    (∀ x, (gn (mcl N) i).testBit x = true → Un (mcl N) A x → (gn (mcl N) k).testBit x = true) ∧ InT N (A ++ [i]) := by
  have h12 := hN.le
  have hp := hN.pow
  obtain ⟨iq, il, im⟩ := clq_at hN hi
  -- a clique's part that is in
  have part : ∀ e, e < (mcl N).length → ∃ X, X < 2 ^ N.length ∧ Clq N X ∧ (∀ x, X.testBit x = true ↔ (gn (mcl N) e).testBit x = true ∧ Un (mcl N) A x) := fun e he => by
    obtain ⟨eq, el, -⟩ := clq_at hN he
    have bit : ∀ x, (mkS fun x => (gn (mcl N) e).testBit x = true ∧ Un (mcl N) A x).testBit x = true ↔ (gn (mcl N) e).testBit x = true ∧ Un (mcl N) A x := fun x => by
      rw [mkS_bit]
      exact ⟨fun hh => hh.2, fun hh => ⟨by have := bit_lt el hh.1; omega, hh⟩⟩
    exact ⟨_, sub_al.2 fun x hx => bit_lt el ((bit x).1 hx).1, Clq_sub eq fun x hx => ((bit x).1 hx).1, bit⟩
  have bound : ∀ e, e < (mcl N).length → e ∉ A → ∀ X, X < 2 ^ N.length → (∀ x, X.testBit x = true ↔ (gn (mcl N) e).testBit x = true ∧ Un (mcl N) A x) → pc X ≤ pc (gn (mcl N) i &&& gn (mcl N) k) := fun e he heA X hX hb => by
    obtain ⟨c, hc, hsub⟩ := h.one X hX (Clq_sub (clq_at hN he).1 fun x hx => ((hb x).1 hx).1) fun x hx => ((hb x).1 hx).2
    refine Nat.le_trans (pc_mono fun x _ hx => ?_) (hmax e he heA c hc)
    rw [Nat.testBit_and, ((hb x).1 hx).1, hsub x hx]; rfl
  obtain ⟨X, hX, hXq, hXb⟩ := part i hi
  have hXk : ∀ x, X.testBit x = true → (gn (mcl N) i &&& gn (mcl N) k).testBit x = true := by
    refine fun x hx => Classical.byContradiction fun hn => ?_
    have hle := bound i hi hiA X hX hXb
    have hlt := pc_grow (s := gn (mcl N) i &&& gn (mcl N) k) (t := X) (Nat.lt_of_lt_of_le hX hp) (fun y hy => by
      rw [Nat.testBit_and, Bool.and_eq_true] at hy
      exact (hXb y).2 ⟨hy.1, k, hk, hy.2⟩) fun e => hn (by rw [← e]; exact hx)
    omega
  have hrip : ∀ x, (gn (mcl N) i).testBit x = true → Un (mcl N) A x → (gn (mcl N) k).testBit x = true := fun x h1 h2 => by
    have := hXk x ((hXb x).2 ⟨h1, h2⟩)
    rw [Nat.testBit_and, Bool.and_eq_true] at this
    exact this.2
  have hXpc : pc (gn (mcl N) i &&& gn (mcl N) k) ≤ pc X := pc_mono fun x _ hx => by
    rw [Nat.testBit_and, Bool.and_eq_true] at hx
    exact (hXb x).2 ⟨hx.1, k, hk, hx.2⟩
  -- a node of the new clique that is not in
  have hb : ∃ b, (gn (mcl N) i).testBit b = true ∧ ¬ Un (mcl N) A b := Classical.byContradiction fun hn => by
    obtain ⟨c, hc, hsub⟩ := h.one _ il iq fun x hx => Classical.byContradiction fun hu => hn ⟨x, hx, hu⟩
    have hcl := h.lt c hc
    have := maxq_max hN il im (clq_at hN hcl).2.1 (clq_at hN hcl).1 hsub
    have := gn_inj (nodup_mcl N) hi hcl this
    subst this; exact hiA hc
  obtain ⟨b, hbi, hbU⟩ := hb
  let t := fun j => ¬ Un (mcl N) A j
  have rlt : ∀ y, Rch N t b y → y < N.length := fun y hy => by
    induction hy with
    | base _ => exact bit_lt il hbi
    | step _ he _ _ => exact E.lt hN he
  have bitK : ∀ y, (mkS fun y => Rch N t b y).testBit y = true ↔ Rch N t b y := fun y => by
    rw [mkS_bit]; exact ⟨fun hh => hh.2, fun hh => ⟨by have := rlt y hh; omega, hh⟩⟩
  have bitZ : ∀ a, (mkS fun a => Un (mcl N) A a ∧ ∃ y, Rch N t b y ∧ E N y a).testBit a = true ↔ Un (mcl N) A a ∧ ∃ y, Rch N t b y ∧ E N y a := fun a => by
    rw [mkS_bit]
    refine ⟨fun hh => hh.2, fun hh => ⟨?_, hh⟩⟩
    obtain ⟨_, y, _, he⟩ := hh
    have := E.lt hN he; omega
  generalize hKd : (mkS fun y => Rch N t b y) = K at bitK
  generalize hZd : (mkS fun a => Un (mcl N) A a ∧ ∃ y, Rch N t b y ∧ E N y a) = Z at bitZ
  have hK : K < 2 ^ N.length := sub_al.2 fun y hy => rlt y ((bitK y).1 hy)
  have hZ : Z < 2 ^ N.length := sub_al.2 fun a ha => by
    obtain ⟨_, y, _, he⟩ := (bitZ a).1 ha
    exact E.lt hN he
  have hZq : Clq N Z := fun a ha a' ha' hne => by
    obtain ⟨u1, y, hy, he⟩ := (bitZ a).1 ha
    obtain ⟨u2, y', hy', he'⟩ := (bitZ a').1 ha'
    exact h.two b y y' a a' hy hy' he he' u1 u2 fun e => hne e.symm
  have hXZ : ∀ x, X.testBit x = true → Z.testBit x = true := fun x hx => by
    obtain ⟨h1, h2⟩ := (hXb x).1 hx
    refine (bitZ x).2 ⟨h2, b, .base hbU, iq b hbi x h1 fun e => ?_⟩
    subst e; exact hbU h2
  obtain ⟨z, hzK, hzall⟩ := full hN hno hZ hZq (pc K) K hK (Nat.le_refl _) (fun e => by
      have := (bitK b).2 (.base hbU)
      rw [e] at this; simp at this) (fun x hx => by
      cases hz : Z.testBit x with
      | false => rfl
      | true => exact absurd ((bitZ x).1 hz).1 ((bitK x).1 hx).mem) (fun a c ha hc => by
      have key : ∀ {u}, Rch N t b u → Rch N (fun j => K.testBit j = true) b u := fun hu => by
        induction hu with
        | base hb' => exact .base ((bitK b).2 (.base hb'))
        | @step p q h1 he ht ih => exact .step ih he ((bitK q).2 (.step h1 he ht))
      exact (Rch.symm hN (key ((bitK a).1 ha))).trans (key ((bitK c).1 hc))) (fun a ha => by
      obtain ⟨_, y, hy, he⟩ := (bitZ a).1 ha
      exact ⟨y, (bitK y).2 hy, he⟩)
  have hzU : ¬ Un (mcl N) A z := ((bitK z).1 hzK).mem
  have hZX : ∀ x, Z.testBit x = true → X.testBit x = true := by
    refine fun x hx => Classical.byContradiction fun hn => ?_
    have bit1 : ∀ y, (Z ||| 2 ^ z).testBit y = true ↔ Z.testBit y = true ∨ y = z := fun y => by
      rw [Nat.testBit_or, two_bit, Bool.or_eq_true, decide_eq_true_eq]
      exact ⟨fun hh => hh.elim .inl fun e => .inr e.symm, fun hh => hh.elim .inl fun e => .inr e.symm⟩
    obtain ⟨C, hC, hsub⟩ := clq_in hN (s := Z ||| 2 ^ z) (Nat.or_lt_two_pow hZ (Nat.pow_lt_pow_right (by omega) (bit_lt hK hzK))) (fun a ha c hc hne => by
      rcases (bit1 a).1 ha with ha | ha <;> rcases (bit1 c).1 hc with hc | hc
      · exact hZq a ha c hc hne
      · rw [hc]; exact (hzall a ha).symm hN
      · rw [ha]; exact hzall c hc
      · exact absurd (hc.trans ha.symm) hne) (fun e => by have := (bit1 z).2 (.inr rfl); rw [e] at this; simp at this)
    obtain ⟨e, he, rfl⟩ := mem_gn.1 hC
    have heA : e ∉ A := fun hm => hzU ⟨e, hm, hsub z ((bit1 z).2 (.inr rfl))⟩
    obtain ⟨Y, hY, -, hYb⟩ := part e he
    have h1 := bound e he heA Y hY hYb
    have h2 : pc Z ≤ pc Y := pc_mono fun y _ hy => (hYb y).2 ⟨hsub y ((bit1 y).2 (.inl hy)), ((bitZ y).1 hy).1⟩
    have h3 := pc_grow (s := X) (t := Z) (Nat.lt_of_lt_of_le hZ hp) hXZ fun e' => hn (by rw [← e']; exact hx)
    omega
  have inC : ∀ x, Un (mcl N) (A ++ [i]) x ↔ Un (mcl N) A x ∨ (gn (mcl N) i).testBit x = true := fun x => by
    constructor
    · rintro ⟨c, hc, hx⟩
      rcases List.mem_append.1 hc with hc | hc
      · exact .inl ⟨c, hc, hx⟩
      · have : c = i := by simpa using hc
        subst this; exact .inr hx
    · rintro (⟨c, hc, hx⟩ | hx)
      · exact ⟨c, List.mem_append_left _ hc, hx⟩
      · exact ⟨i, by simp, hx⟩
  -- what is reached from the new clique's own nodes
  have own : ∀ b', (gn (mcl N) i).testBit b' = true → ¬ Un (mcl N) A b' → Rch N t b b' := fun b' h1 h2 => by
    by_cases e : b' = b
    · subst e; exact .base hbU
    · exact .step (.base hbU) (iq b hbi b' h1 e) h2
  have nbX : ∀ {y a}, Rch N t b y → E N y a → Un (mcl N) A a → (gn (mcl N) i).testBit a = true := fun {y a} hy he ha => ((hXb a).1 (hZX a ((bitZ a).2 ⟨ha, y, hy, he⟩))).1
  refine ⟨hrip, fun a ha => ?_, fun Q hQ hQq hQU => ?_, fun b1 y y' a a' hy hy' he he' ha ha' hne => ?_⟩
  · rcases List.mem_append.1 ha with h1 | h1
    · exact h.lt a h1
    · have : a = i := by simpa using h1
      rw [this]; exact hi
  · by_cases hall : ∀ x, Q.testBit x = true → Un (mcl N) A x
    · obtain ⟨c, hc, hs⟩ := h.one Q hQ hQq hall
      exact ⟨c, List.mem_append_left _ hc, hs⟩
    · obtain ⟨b', hb'⟩ := Classical.not_forall.1 hall
      obtain ⟨hb'Q, hb'U⟩ := Classical.not_imp.1 hb'
      have hb'i : (gn (mcl N) i).testBit b' = true := ((inC b').1 (hQU b' hb'Q)).resolve_left hb'U
      refine ⟨i, by simp, fun x hx => ?_⟩
      rcases (inC x).1 (hQU x hx) with h1 | h1
      · exact nbX (own b' hb'i hb'U) (hQq b' hb'Q x hx fun e => by subst e; exact hb'U h1) h1
      · exact h1
  · have mono : ∀ {u v}, Rch N (fun j => ¬ Un (mcl N) (A ++ [i]) j) u v → Rch N t u v := fun hh => hh.mono fun x hx hu => hx ((inC x).2 (.inl hu))
    have inI : ∀ {u y a y' a'}, Rch N t u y → Rch N t u y' → E N y a → E N y' a' → (gn (mcl N) i).testBit a = true → ¬ Un (mcl N) A a → Un (mcl N) (A ++ [i]) a' → (gn (mcl N) i).testBit a' = true := fun {u y a y' a'} h1 h2 h3 h4 h5 h6 h7 => by
      rcases (inC a').1 h7 with h8 | h8
      · have r1 : Rch N t u a := .step h1 h3 h6
        have r2 : Rch N t b y' := (own a h5 h6).trans ((Rch.symm hN r1).trans h2)
        exact nbX r2 h4 h8
      · exact h8
    by_cases c1 : Un (mcl N) A a
    · by_cases c2 : Un (mcl N) A a'
      · exact h.two b1 y y' a a' (mono hy) (mono hy') he he' c1 c2 hne
      · have h2 := ((inC a').1 ha').resolve_left c2
        have h1 := inI (mono hy') (mono hy) he' he h2 c2 ha
        exact iq a h1 a' h2 fun e => hne e.symm
    · have h1 := ((inC a).1 ha).resolve_left c1
      have h2 := inI (mono hy) (mono hy') he he' h1 c1 ha'
      exact iq a h1 a' h2 fun e => hne e.symm
/-! ## Trees by their parents -/
/-- Up from a node, k steps. -/
def itr (l : List Int) : Nat → Int → Int
  | 0, a => a
  | k + 1, a => if a < 0 then a else itr l k (gi l a.toNat)
theorem itr_neg (l : List Int) {a : Int} (h : a < 0) : ∀ k, itr l k a = a
  | 0 => rfl
  | k + 1 => by unfold itr; rw [if_pos h]
theorem itr_succ (l : List Int) : ∀ (k : Nat) (a : Int), itr l (k + 1) a = if itr l k a < 0 then itr l k a else gi l (itr l k a).toNat
  | 0, a => rfl
  | k + 1, a => by
    by_cases h : a < 0
    · rw [itr_neg l h, itr_neg l h, if_pos h]
    · have e1 : itr l (k + 1 + 1) a = itr l (k + 1) (gi l a.toNat) := by
        conv => lhs; unfold itr
        rw [if_neg h]
      have e2 : itr l (k + 1) a = itr l k (gi l a.toNat) := by
        conv => lhs; unfold itr
        rw [if_neg h]
      rw [e1, e2]
      exact itr_succ l k (gi l a.toNat)
def topB (L : List Nat) (l : List Int) (x i : Nat) : Bool := (gn L i).testBit x && (decide (gi l i < 0) || !(gn L (gi l i).toNat).testBit x)
structure TreeP (N : List Nat) (l : List Int) : Prop where
  len : l.length = (mcl N).length
  rng : ∀ i, i < (mcl N).length → -1 ≤ gi l i ∧ gi l i < ((mcl N).length : Int)
  acy : ∀ i, i < (mcl N).length → itr l (mcl N).length (i : Int) < 0
  root : (List.range (mcl N).length).countP (fun i => decide (gi l i < 0)) = 1
  top : ∀ x, x < N.length → (List.range (mcl N).length).countP (topB (mcl N) l x) = 1
theorem TreeP.take {N : List Nat} (hN : VN N) (ho : (ordG N).isSome = true) {l : List Int} : TreeP N (l.take 14) ↔ TreeP N l := by
  have h12 := hN.le
  have hfew := mcl_few hN ho
  by_cases h : l.length ≤ 14
  · rw [List.take_of_length_le h]
  · constructor
    · intro hm
      have := hm.len
      rw [List.length_take] at this; omega
    · intro hm
      have := hm.len
      omega
theorem count_one {n : Nat} {p : Nat → Bool} {a : Nat} (ha : a < n) (hp : ∀ i, i < n → (p i = true ↔ i = a)) : (List.range n).countP p = 1 := by
  rw [List.countP_eq_length_filter]
  have : (List.range n).filter p = [a] := by
    have h1 : ((List.range n).filter p).Perm [a] := (List.perm_ext_iff_of_nodup (List.Pairwise.filter _ List.nodup_range) (by simp)).2 fun i => by
      rw [List.mem_filter, List.mem_range, List.mem_singleton]
      constructor
      · rintro ⟨h1, h2⟩; exact (hp i h1).1 h2
      · rintro rfl; exact ⟨ha, (hp i ha).2 rfl⟩
    exact List.perm_singleton.1 h1
  rw [this]; rfl
/-- What the code's growing tree is: cliques in the order of their coming, and their parents. -/
structure GrowT (N A : List Nat) (l : List Int) : Prop where
  inn : InT N A
  nodup : A.Nodup
  head : ∃ B, A = 0 :: B
  len : l.length = (mcl N).length
  out : ∀ i, i < (mcl N).length → (i = 0 ∨ i ∉ A) → gi l i = -1
  step : ∀ (A1 : List Nat) (a : Nat) (A2 : List Nat), A = A1 ++ a :: A2 → A1 ≠ [] → ∃ p : Nat, p ∈ A1 ∧ gi l a = (p : Int) ∧ ∀ x, (gn (mcl N) a).testBit x = true → Un (mcl N) A1 x → (gn (mcl N) p).testBit x = true
theorem gi_set {l : List Int} {i j : Nat} {v : Int} (hi : i < l.length) : gi (l.set i v) j = if j = i then v else gi l j := by
  unfold gi
  by_cases e : j = i
  · subst e; simp [List.getD, hi]
  · rw [if_neg e]
    have e' : ¬ i = j := fun h => e h.symm
    simp [List.getD, List.getElem?_set, e']
theorem GrowT.zero {N : List Nat} (hN : VN N) (h0 : 0 < (mcl N).length) : GrowT N [0] (List.replicate (mcl N).length (-1)) := by
  refine ⟨InT.zero hN h0, by simp, ⟨[], rfl⟩, by simp, fun i hi _ => by simp [gi, hi], fun A1 a A2 e hne => ?_⟩
  cases A1 with
  | nil => exact absurd rfl hne
  | cons b B =>
    have := congrArg List.length e
    simp at this
theorem GrowT.next {N : List Nat} (hN : VN N) (hno : ∀ l, ¬ HoleP N l) {A : List Nat} {l : List Int} (h : GrowT N A l) {i k : Nat} (hi : i < (mcl N).length) (hiA : i ∉ A) (hk : k ∈ A)
    (hmax : ∀ e, e < (mcl N).length → e ∉ A → ∀ c ∈ A, pc (gn (mcl N) e &&& gn (mcl N) c) ≤ pc (gn (mcl N) i &&& gn (mcl N) k)) : GrowT N (A ++ [i]) (l.set i (k : Int)) := by
  obtain ⟨hrip, hin⟩ := h.inn.next hN hno hi hiA hk hmax
  obtain ⟨B, hB⟩ := h.head
  have h0A : 0 ∈ A := by rw [hB]; simp
  have hne0 : i ≠ 0 := fun e => by subst e; exact hiA h0A
  have hil : i < l.length := by rw [h.len]; exact hi
  refine ⟨hin, ?_, ⟨B ++ [i], by rw [hB]; rfl⟩, by simp [h.len], fun j hj hjo => ?_, fun A1 a A2 e hne => ?_⟩
  · rw [List.nodup_append]
    exact ⟨h.nodup, by simp, fun a ha b hb e => hiA (by
      have : b = i := by simpa using hb
      rw [← this, ← e]; exact ha)⟩
  · rw [gi_set hil]
    have hji : j ≠ i := fun e => by
      subst e
      rcases hjo with h1 | h1
      · exact hne0 h1
      · exact h1 (by simp)
    rw [if_neg hji]
    exact h.out j hj (hjo.imp id fun h1 hm => h1 (List.mem_append_left _ hm))
  · rcases List.eq_nil_or_concat A2 with rfl | ⟨A2', b, rfl⟩
    · have e' : A ++ [i] = A1 ++ [a] := e
      obtain ⟨rfl, h2⟩ := List.append_inj' e' rfl
      have : i = a := by simpa using h2
      subst this
      refine ⟨k, hk, by rw [gi_set hil, if_pos rfl], fun x hx hu => hrip x hx hu⟩
    · rw [List.concat_eq_append] at e
      have e' : A ++ [i] = (A1 ++ a :: A2') ++ [b] := by simpa using e
      obtain ⟨rfl, -⟩ := List.append_inj' e' rfl
      obtain ⟨p, hp, hg, hr⟩ := h.step A1 a A2' rfl hne
      refine ⟨p, hp, ?_, hr⟩
      have : a ≠ i := fun e => hiA (by subst e; simp)
      rw [gi_set hil, if_neg this]
      exact hg
theorem GrowT.tree {N : List Nat} (hN : VN N) {A : List Nat} {l : List Int} (h : GrowT N A l) (hall : (mcl N).length ≤ A.length) : TreeP N l := by
  have hsub : ∀ i, i < (mcl N).length → i ∈ A := fun i hi => Classical.byContradiction fun hn => by
    have h1 : (i :: A).Nodup := List.nodup_cons.2 ⟨hn, h.nodup⟩
    have := h1.length_le_of_subset (l₂ := List.range (mcl N).length) fun j hj => by
      rcases List.mem_cons.1 hj with rfl | hj
      · simpa using hi
      · simpa using h.inn.lt j hj
    simp at this; omega
  obtain ⟨B, hB⟩ := h.head
  have h0 : 0 < (mcl N).length := h.inn.lt 0 (by rw [hB]; simp)
  have root0 : gi l 0 = -1 := h.out 0 h0 (.inl rfl)
  -- every other one has a parent ahead of it
  have par : ∀ a, a ∈ A → a ≠ 0 → ∃ A1 A2 p, A = A1 ++ a :: A2 ∧ p ∈ A1 ∧ gi l a = (p : Int) ∧ ∀ x, (gn (mcl N) a).testBit x = true → Un (mcl N) A1 x → (gn (mcl N) p).testBit x = true := fun a ha ha0 => by
    obtain ⟨A1, A2, e⟩ := List.append_of_mem ha
    have hne : A1 ≠ [] := fun e1 => by
      subst e1
      rw [hB] at e
      simp at e
      exact ha0 e.1.symm
    obtain ⟨p, hp, hg, hr⟩ := h.step A1 a A2 e hne
    exact ⟨A1, A2, p, e, hp, hg, hr⟩
  have neg_iff : ∀ i, i < (mcl N).length → (gi l i < 0 ↔ i = 0) := fun i hi => by
    by_cases e : i = 0
    · subst e; rw [root0]; simp
    · obtain ⟨A1, A2, p, -, -, hg, -⟩ := par i (hsub i hi) e
      rw [hg]
      constructor
      · intro h; omega
      · intro h; exact absurd h e
  refine ⟨h.len, fun i hi => ?_, fun i hi => ?_, count_one h0 fun i hi => by rw [decide_eq_true_eq]; exact neg_iff i hi, fun x hx => ?_⟩
  · by_cases e : i = 0
    · subst e; rw [root0]; omega
    · obtain ⟨A1, A2, p, hA, hp, hg, -⟩ := par i (hsub i hi) e
      have := h.inn.lt p (by rw [hA]; exact List.mem_append_left _ hp)
      rw [hg]; omega
  · have key : ∀ (k : Nat) (A1 A2 : List Nat) (a : Nat), A = A1 ++ a :: A2 → A1.length < k → itr l k (a : Int) < 0 := by
      intro k
      induction k with
      | zero => intro A1 A2 a _ hk; omega
      | succ k ih =>
        intro A1 A2 a e hk
        unfold itr
        rw [if_neg (by omega), Int.toNat_natCast]
        by_cases ha0 : a = 0
        · subst ha0
          rw [root0, itr_neg l (by omega)]; omega
        · have hne : A1 ≠ [] := fun e1 => by
            subst e1
            rw [hB] at e
            simp at e
            exact ha0 e.1.symm
          obtain ⟨p, hp, hg, -⟩ := h.step A1 a A2 e hne
          rw [hg]
          obtain ⟨C1, C2, e2⟩ := List.append_of_mem hp
          refine ih C1 (C2 ++ a :: A2) p (by rw [e, e2]; simp) ?_
          have := congrArg List.length e2
          simp at this; omega
    obtain ⟨A1, A2, e⟩ := List.append_of_mem (hsub i hi)
    refine key _ A1 A2 i e ?_
    have hlen : A.length ≤ (mcl N).length := by
      have := h.nodup.length_le_of_subset (l₂ := List.range (mcl N).length) fun j hj => by simpa using h.inn.lt j hj
      simpa using this
    have := congrArg List.length e
    simp at this; omega
  · -- the first clique that has x
    have hex : ∃ c ∈ A, (gn (mcl N) c).testBit x = true := by
      obtain ⟨K, hK, hs⟩ := clq_in hN (s := 2 ^ x) (Nat.pow_lt_pow_right (by omega) hx) (fun i hi j hj hne => by
        rw [two_bit, decide_eq_true_eq] at hi hj
        exact absurd (hj.symm.trans hi) hne) (by have : 0 < 2 ^ x := Nat.pow_pos (by omega); omega)
      obtain ⟨k, hk, rfl⟩ := mem_gn.1 hK
      exact ⟨k, hsub k hk, hs x (by rw [two_bit]; simp)⟩
    have hsplit : ∃ A1 a A2, A = A1 ++ a :: A2 ∧ (gn (mcl N) a).testBit x = true ∧ ∀ c ∈ A1, (gn (mcl N) c).testBit x = false := by
      obtain ⟨c, hc, hcx⟩ := hex
      have hsome : (A.find? fun c => (gn (mcl N) c).testBit x).isSome = true := by
        rw [List.find?_isSome]; exact ⟨c, hc, hcx⟩
      obtain ⟨a, ha⟩ := Option.isSome_iff_exists.1 hsome
      obtain ⟨h1, A1, A2, h2, h3⟩ := List.find?_eq_some_iff_append.1 ha
      exact ⟨A1, a, A2, h2, h1, fun c hc => by simpa using h3 c hc⟩
    obtain ⟨A1, a, A2, hA, hax, hfirst⟩ := hsplit
    have haA : a ∈ A := by rw [hA]; simp
    refine count_one (h.inn.lt a haA) fun i hi => ?_
    unfold topB
    rw [Bool.and_eq_true, Bool.or_eq_true, decide_eq_true_eq, Bool.not_eq_true']
    constructor
    · rintro ⟨hix, htop⟩
      refine Classical.byContradiction fun hia => ?_
      have hiA := hsub i hi
      have hi0 : i ≠ 0 := fun e => by
        -- the root comes first
        subst e
        rw [hB] at hA
        cases A1 with
        | nil => simp at hA; exact hia hA.1
        | cons b B1 =>
          simp at hA
          have := hfirst b (by simp)
          rw [← hA.1] at this
          rw [this] at hix; cases hix
      obtain ⟨C1, C2, p, hC, hp, hg, hr⟩ := par i hiA hi0
      have haC : a ∈ C1 := by
        -- i is not ahead of a
        have hnd := h.nodup
        have hiA1 : i ∉ A1 := fun hm => by rw [hfirst i hm] at hix; cases hix
        have hmem : i ∈ A2 := by
          rw [hA] at hiA
          rcases List.mem_append.1 hiA with h1 | h1
          · exact absurd h1 hiA1
          · exact (List.mem_cons.1 h1).resolve_left hia
        obtain ⟨D1, D2, hD⟩ := List.append_of_mem hmem
        have e1 : A = (A1 ++ a :: D1) ++ i :: D2 := by rw [hA, hD]; simp
        have e2 : C1 = A1 ++ a :: D1 := by
          have h5 : C1 ++ i :: C2 = (A1 ++ a :: D1) ++ i :: D2 := hC.symm.trans e1
          have n1 : i ∉ C1 := fun hm => by
            rw [hC, List.nodup_append] at hnd
            exact hnd.2.2 i hm i (by simp) rfl
          have n2 : i ∉ A1 ++ a :: D1 := fun hm => by
            rw [e1, List.nodup_append] at hnd
            exact hnd.2.2 i hm i (by simp) rfl
          rcases List.append_eq_append_iff.1 h5 with ⟨m, h6, h7⟩ | ⟨m, h6, h7⟩
          · cases m with
            | nil => simpa using h6.symm
            | cons c m' =>
              simp at h7
              rw [h6] at n2
              exact absurd (by rw [← h7.1]; simp) n2
          · cases m with
            | nil => simpa using h6
            | cons c m' =>
              simp at h7
              rw [h6] at n1
              exact absurd (by rw [← h7.1]; simp) n1
        rw [e2]; simp
      have := hr x hix ⟨a, haC, hax⟩
      rw [hg] at htop
      rcases htop with h1 | h1
      · omega
      · rw [Int.toNat_natCast, this] at h1; cases h1
    · rintro rfl
      refine ⟨hax, ?_⟩
      by_cases h0' : i = 0
      · left; rw [h0', root0]; omega
      · right
        obtain ⟨C1, C2, p, hC, hp, hg, -⟩ := par i haA h0'
        have hnd := h.nodup
        have e2 : C1 = A1 := by
          have h5 : C1 ++ i :: C2 = A1 ++ i :: A2 := hC.symm.trans hA
          have n1 : i ∉ C1 := fun hm => by
            rw [hC, List.nodup_append] at hnd
            exact hnd.2.2 i hm i (by simp) rfl
          have n2 : i ∉ A1 := fun hm => by
            rw [hA, List.nodup_append] at hnd
            exact hnd.2.2 i hm i (by simp) rfl
          rcases List.append_eq_append_iff.1 h5 with ⟨m, h6, h7⟩ | ⟨m, h6, h7⟩
          · cases m with
            | nil => simpa using h6.symm
            | cons c m' =>
              simp at h7
              rw [h6] at n2
              exact absurd (by rw [← h7.1]; simp) n2
          · cases m with
            | nil => simpa using h6
            | cons c m' =>
              simp at h7
              rw [h6] at n1
              exact absurd (by rw [← h7.1]; simp) n1
        rw [hg, Int.toNat_natCast]
        exact hfirst p (by rw [← e2]; exact hp)
end Go.Proofs.YtmpjanpmkmlloaaDoor
