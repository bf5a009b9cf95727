/- Rows of the greatest cliques and models of spans: one gives the other; the search finds a row if there is one. No program, no condition. -/
import Derived.Test.YtmpjanpmkmlloaaDoorGl
import Derived.Test.YtmpjanpmkmlloaaDoorGm
import Derived.Test.YtmpjanpmkmlloaaDoorGe
namespace Go.Proofs.YtmpjanpmkmlloaaDoor
open Go Go.RowKit VC
set_option linter.unusedSimpArgs false
set_option linter.unusedVariables false

/-- A good row of the greatest cliques, each once. -/
structure Good (N : List Nat) (P : List Nat) : Prop where
  cons : Cons P
  mem : ∀ K, K ∈ P ↔ K ∈ mcl N
  nodup : P.Nodup
theorem dedup (R : List Nat) : ∃ R' : List Nat, R'.Sublist R ∧ R'.Nodup ∧ ∀ K, K ∈ R' ↔ K ∈ R := by
  induction R with
  | nil => exact ⟨[], List.Sublist.refl _, List.nodup_nil, fun _ => Iff.rfl⟩
  | cons a R ih =>
    obtain ⟨R', h1, h2, h3⟩ := ih
    by_cases h : a ∈ R
    · exact ⟨R', h1.cons _, h2, fun K => by
        rw [h3, List.mem_cons]
        exact ⟨.inr, fun hK => hK.elim (fun e => e ▸ h) id⟩⟩
    · exact ⟨a :: R', h1.cons_cons _, List.nodup_cons.2 ⟨fun hm => h ((h3 a).1 hm), h2⟩, fun K => by rw [List.mem_cons, List.mem_cons, h3]⟩
theorem row_good {N : List Nat} (hN : VN N) {R : List Nat} (h : Row N (al N) R) : ∃ P, Good N P := by
  obtain ⟨R', h1, h2, h3⟩ := dedup (R.filter fun s => decide (1 ≤ s) && maxq N s)
  have hlt : ∀ K ∈ R, K < 2 ^ N.length := fun K hK => sub_al.2 fun i hi => by
    have := (h.clq K hK).2 i hi
    rw [al_bit] at this; simpa using this
  refine ⟨R', h.cons.sub (h1.trans List.filter_sublist), fun K => ?_, h2⟩
  rw [h3, List.mem_filter, mem_mcl]
  simp only [Bool.and_eq_true, decide_eq_true_eq]
  constructor
  · rintro ⟨a, b, c⟩; exact ⟨hlt K a, b, c⟩
  · rintro ⟨a, b, c⟩
    have hq : Clq N K := by
      have := c
      unfold maxq at this
      rw [Bool.and_eq_true] at this
      exact (cliq_iff (Nat.lt_of_lt_of_le a hN.pow)).1 this.1
    obtain ⟨K', hK', hsub⟩ := h.cov K hq fun x hx => by rw [al_bit]; simpa using bit_lt a hx
    have := maxq_max hN a c (hlt K' hK') (h.clq K' hK').1 hsub
    subst this
    exact ⟨hK', b, c⟩
/-- Every clique lies in a greatest one. -/
theorem clq_in {N : List Nat} (hN : VN N) {s : Nat} (hs : s < 2 ^ N.length) (hq : Clq N s) (h0 : s ≠ 0) : ∃ K ∈ mcl N, ∀ x, s.testBit x = true → K.testBit x = true := by
  have h12 := hN.le
  obtain ⟨m, ⟨K, k1, k2, k3, rfl⟩, hmax⟩ := exists_greatest (P := fun m => ∃ K, K < 2 ^ N.length ∧ Clq N K ∧ (∀ x, s.testBit x = true → K.testBit x = true) ∧ pc K = m) (B := 13) (fun k ⟨K, _, _, _, e⟩ => by have := pc_le K; omega) (pc s) ⟨s, hs, hq, fun _ h => h, rfl⟩
  refine ⟨K, mem_mcl.2 ⟨k1, ?_, ?_⟩, k3⟩
  · refine Nat.one_le_iff_ne_zero.2 fun e => h0 (set_zero.2 fun i => ?_)
    cases hb : s.testBit i with
    | false => rfl
    | true => have := k3 i hb; rw [e] at this; simp at this
  · have hK4 : K < 4096 := Nat.lt_of_lt_of_le k1 hN.pow
    rw [maxq_ref hN k1, (cliq_iff hK4).2 k2, Bool.true_and, List.all_eq_true]
    intro i hi
    rw [List.mem_range] at hi
    cases hb : K.testBit i with
    | true => rfl
    | false =>
      rw [Bool.false_or, Bool.not_eq_true']
      cases hc : cliq N (K ||| 2 ^ i) with
      | false => rfl
      | true =>
        have hlt : K ||| 2 ^ i < 2 ^ N.length := Nat.or_lt_two_pow k1 (Nat.pow_lt_pow_right (by omega) hi)
        have hbit : (K ||| 2 ^ i).testBit i = true := by rw [Nat.testBit_or, two_bit]; simp
        have := hmax (pc (K ||| 2 ^ i)) (pc_lt (fun j _ hj => by rw [Nat.testBit_or, hj]; rfl) (by omega) hb hbit)
        exact absurd ⟨_, hlt, (cliq_iff (Nat.lt_of_lt_of_le hlt hN.pow)).1 hc, fun x hx => by rw [Nat.testBit_or, k3 x hx]; rfl, rfl⟩ this
theorem Good.clq {N : List Nat} (hN : VN N) {P : List Nat} (h : Good N P) {K : Nat} (hK : K ∈ P) : Clq N K ∧ K < 2 ^ N.length := by
  obtain ⟨a, b, c⟩ := mem_mcl.1 ((h.mem K).1 hK)
  unfold maxq at c
  rw [Bool.and_eq_true] at c
  exact ⟨(cliq_iff (Nat.lt_of_lt_of_le a hN.pow)).1 c.1, a⟩
theorem Good.node {N : List Nat} (hN : VN N) {P : List Nat} (h : Good N P) {x : Nat} (hx : x < N.length) : ∃ k, k < P.length ∧ (gn P k).testBit x = true := by
  obtain ⟨K, hK, hs⟩ := clq_in hN (s := 2 ^ x) (Nat.pow_lt_pow_right (by omega) hx) (fun i hi j hj hne => by
    rw [two_bit, decide_eq_true_eq] at hi hj
    exact absurd (hj.symm.trans hi) hne) (by have : 0 < 2 ^ x := Nat.pow_pos (by omega); omega)
  obtain ⟨k, hk, rfl⟩ := mem_gn.1 ((h.mem K).2 hK)
  exact ⟨k, hk, hs x (by rw [two_bit]; simp)⟩
theorem Good.edge {N : List Nat} (hN : VN N) {P : List Nat} (h : Good N P) {x y : Nat} (hx : x < N.length) (hy : y < N.length) (he : E N x y) : ∃ k, k < P.length ∧ (gn P k).testBit x = true ∧ (gn P k).testBit y = true := by
  have bit : ∀ i, (2 ^ x ||| 2 ^ y).testBit i = true ↔ i = x ∨ i = y := fun i => by
    rw [Nat.testBit_or, two_bit, two_bit, Bool.or_eq_true, decide_eq_true_eq, decide_eq_true_eq]
    constructor
    · rintro (h | h)
      · exact .inl h.symm
      · exact .inr h.symm
    · rintro (h | h)
      · exact .inl h.symm
      · exact .inr h.symm
  obtain ⟨K, hK, hs⟩ := clq_in hN (s := 2 ^ x ||| 2 ^ y) (Nat.or_lt_two_pow (Nat.pow_lt_pow_right (by omega) hx) (Nat.pow_lt_pow_right (by omega) hy)) (fun i hi j hj hne => by
    rcases (bit i).1 hi with e1 | e1 <;> rcases (bit j).1 hj with e2 | e2
    · exact absurd (e2.trans e1.symm) hne
    · rw [e1, e2]; exact he
    · rw [e1, e2]; exact he.symm hN
    · exact absurd (e2.trans e1.symm) hne) (fun e => by have := (bit x).2 (.inl rfl); rw [e] at this; simp at this)
  obtain ⟨k, hk, rfl⟩ := mem_gn.1 ((h.mem K).2 hK)
  exact ⟨k, hk, hs x ((bit x).2 (.inl rfl)), hs y ((bit y).2 (.inr rfl))⟩
/-! ## Models -/
/-- Spans that meet exactly where nodes are neighbours. -/
structure Mdl (N : List Nat) (f t : Nat → Int) : Prop where
  le : ∀ i, i < N.length → f i ≤ t i
  meet : ∀ i j, i < N.length → j < N.length → i ≠ j → (E N i j ↔ f i ≤ t j ∧ f j ≤ t i)
theorem Mdl.left {N : List Nat} (hN : VN N) {f t : Nat → Int} (h : Mdl N f t) {z x y : Nat} (hz : z < N.length) (hl : Link N z x y) (hx : t x < f z) : t y < f z := by
  induction hl with
  | base _ => exact hx
  | @step a b h1 he hb ih =>
    have hal := (away_bit.1 h1.mem).1
    obtain ⟨hbl, hbz, hne⟩ := away_bit.1 hb
    have e1 := (h.meet a b hal hbl (E.ne hN he)).1 he
    have e2 := h.meet z b hz hbl (fun e => hne e.symm)
    have e3 := h.le z hz
    refine Int.lt_of_not_ge fun hge => hbz (e2.2 ⟨?_, ?_⟩)
    · exact hge
    · omega
theorem Mdl.no_at {N : List Nat} (hN : VN N) {f t : Nat → Int} (h : Mdl N f t) : ∀ a b c, ¬ AT N a b c := fun a b c hat => by
  obtain ⟨ha, hb, hc⟩ := hat.lt
  have dis : ∀ {i j}, i < N.length → j < N.length → i ≠ j → ¬ E N i j → t i < f j ∨ t j < f i := fun {i j} hi hj hne he => by
    have := h.meet i j hi hj hne
    by_cases h1 : f i ≤ t j
    · by_cases h2 : f j ≤ t i
      · exact absurd (this.2 ⟨h1, h2⟩) he
      · exact .inl (by omega)
    · exact .inr (by omega)
  have l1 := h.le a ha
  have l2 := h.le b hb
  have l3 := h.le c hc
  have dab := dis ha hb hat.ab hat.nab
  have dac := dis ha hc hat.ac hat.nac
  have dbc := dis hb hc hat.bc hat.nbc
  have fa := fun h1 => h.left hN ha hat.la h1
  have fa' := fun h1 => h.left hN ha (Rch.symm hN hat.la) h1
  have fb := fun h1 => h.left hN hb hat.lb h1
  have fb' := fun h1 => h.left hN hb (Rch.symm hN hat.lb) h1
  have fc := fun h1 => h.left hN hc hat.lc h1
  have fc' := fun h1 => h.left hN hc (Rch.symm hN hat.lc) h1
  rcases dab with h1 | h1 <;> rcases dac with h2 | h2 <;> rcases dbc with h3 | h3
  · have := fb h1; omega
  · have := fc h2; omega
  · omega
  · have := fa' h2; omega
  · have := fa h1; omega
  · omega
  · have := fc' h3; omega
  · have := fb' h3; omega
theorem ordN_of {N : List Nat} (hN : VN N) (hsim : ∀ s, s < 2 ^ N.length → s ≠ 0 → ∃ z, s.testBit z = true ∧ Clq N (nb N z &&& s)) : ∀ (f left : Nat), left < 2 ^ N.length → pc left ≤ f → (ordN N f left).isSome = true
  | 0, left, hl, hf => by
    have h4 : left < 4096 := Nat.lt_of_lt_of_le hl hN.pow
    have : left = 0 := (pc_zero h4).1 (by omega)
    subst this
    simp [ordN]
  | f + 1, left, hl, hf => by
    have h12 := hN.le
    unfold ordN
    by_cases h0 : left = 0
    · rw [if_pos h0]; rfl
    · rw [if_neg h0]
      obtain ⟨z, hz, hq⟩ := hsim left hl h0
      have hz12 : z < 12 := by have := bit_lt hl hz; omega
      cases hfind : (els left).find? (fun i => cliq N (nb N i &&& left)) with
      | none =>
        rw [List.find?_eq_none] at hfind
        have := hfind z (mem_els.2 ⟨hz12, hz⟩)
        rw [(cliq_iff (Nat.lt_of_le_of_lt Nat.and_le_left (hN.nb_lt' z))).2 hq] at this
        exact absurd rfl this
      | some i =>
        have hm := mem_els.1 (List.mem_of_find?_eq_some hfind)
        have := ordN_of hN hsim f (nSub left (2 ^ i)) (nSub_lt hl) (by have := pc_sub hm.2 hm.1; omega)
        simp only [Option.isSome_map]
        exact this
/-- A node of a set whose span ends first. -/
theorem first_end (t : Nat → Int) {s n : Nat} (hs : s < 2 ^ n) (h0 : s ≠ 0) : ∃ z, s.testBit z = true ∧ ∀ i, s.testBit i = true → t z ≤ t i := by
  have hex : ∃ z, s.testBit z = true := Classical.byContradiction fun hn => h0 (set_zero.2 fun i => by
    cases hb : s.testBit i with
    | false => rfl
    | true => exact absurd ⟨i, hb⟩ hn)
  have key : ∀ k, (∃ z, z < k ∧ s.testBit z = true) → ∃ z, s.testBit z = true ∧ ∀ i, i < k → s.testBit i = true → t z ≤ t i := by
    intro k
    induction k with
    | zero => rintro ⟨z, h, _⟩; omega
    | succ k ih =>
      rintro ⟨z, hz, hb⟩
      by_cases h : ∃ z, z < k ∧ s.testBit z = true
      · obtain ⟨y, hy, hmin⟩ := ih h
        by_cases hk : s.testBit k = true ∧ t k < t y
        · exact ⟨k, hk.1, fun i hi hbi => by
            by_cases e : i = k
            · subst e; exact Int.le_refl _
            · have := hmin i (by omega) hbi
              have := hk.2
              omega⟩
        · refine ⟨y, hy, fun i hi hbi => ?_⟩
          by_cases e : i = k
          · subst e
            exact Int.le_of_not_gt fun hlt => hk ⟨hbi, hlt⟩
          · exact hmin i (by omega) hbi
      · have e : z = k := by
          by_cases e : z = k
          · exact e
          · exact absurd ⟨z, by omega, hb⟩ h
        subst e
        refine ⟨z, hb, fun i hi hbi => ?_⟩
        by_cases e : i = z
        · subst e; exact Int.le_refl _
        · exact absurd ⟨i, by omega, hbi⟩ h
  obtain ⟨z, hz⟩ := hex
  obtain ⟨y, hy, hmin⟩ := key n ⟨z, bit_lt hs hz, hz⟩
  exact ⟨y, hy, fun i hi => hmin i (bit_lt hs hi) hi⟩
theorem Mdl.chordal {N : List Nat} (hN : VN N) {f t : Nat → Int} (h : Mdl N f t) : (ordG N).isSome = true := by
  refine ordN_of hN (fun s hs h0 => ?_) 12 (al N) (al_lt N) (pc_le _)
  obtain ⟨z, hz, hmin⟩ := first_end t hs h0
  refine ⟨z, hz, fun i hi j hj hne => ?_⟩
  rw [Nat.testBit_and, Bool.and_eq_true] at hi hj
  have hzl := bit_lt hs hz
  have hil := bit_lt hs hi.2
  have hjl := bit_lt hs hj.2
  have h1 := (h.meet z i hzl hil (E.ne hN hi.1)).1 hi.1
  have h2 := (h.meet z j hzl hjl (E.ne hN hj.1)).1 hj.1
  have h3 := hmin i hi.2
  have h4 := hmin j hj.2
  exact (h.meet i j hil hjl (fun e => hne e.symm)).2 ⟨by omega, by omega⟩
/-! ## From a row to a model -/
theorem frm_first {row : List Nat} {x : Nat} (h : ∃ k, k < row.length ∧ (gn row k).testBit x = true) : ∃ k, k < row.length ∧ frm row x = (k : Int) ∧ (gn row k).testBit x = true ∧ ∀ j, j < k → (gn row j).testBit x = false := by
  obtain ⟨m, ⟨h1, h2⟩, hmin⟩ := exists_least (P := fun k => k < row.length ∧ (gn row k).testBit x = true) _ h.choose_spec
  have hidx : row.findIdx? (fun c => c.testBit x) = some m := by
    rw [List.findIdx?_eq_some_iff_getElem]
    refine ⟨h1, by rw [gn_get h1]; exact h2, fun j hj => ?_⟩
    have := fun hb => hmin j hj ⟨by omega, hb⟩
    rw [gn_get (by omega)]
    exact this
  refine ⟨m, h1, by unfold frm; rw [hidx], h2, fun j hj => ?_⟩
  cases hb : (gn row j).testBit x with
  | false => rfl
  | true => exact absurd ⟨by omega, hb⟩ (hmin j hj)
theorem ttoT_last {row : List Nat} {x : Nat} : ∀ n, (∃ k, k < n ∧ (gn row k).testBit x = true) → ttoT row x n < n ∧ (gn row (ttoT row x n)).testBit x = true ∧ ∀ j, ttoT row x n < j → j < n → (gn row j).testBit x = false
  | 0, ⟨k, h, _⟩ => by omega
  | n + 1, ⟨k, hk, hb⟩ => by
    unfold ttoT
    cases hn : (gn row n).testBit x with
    | true =>
      rw [if_pos rfl]
      exact ⟨by omega, hn, fun j h1 h2 => by omega⟩
    | false =>
      rw [if_neg (by simp)]
      have hkn : k < n := by
        by_cases e : k = n
        · subst e; rw [hn] at hb; cases hb
        · omega
      obtain ⟨a, b, c⟩ := ttoT_last n ⟨k, hkn, hb⟩
      refine ⟨by omega, b, fun j h1 h2 => ?_⟩
      by_cases e : j = n
      · subst e; exact hn
      · exact c j h1 (by omega)
theorem Good.mdl {N : List Nat} (hN : VN N) {P : List Nat} (h : Good N P) : Mdl N (frm P) (fun x => (tto P x : Int)) ∧ ∀ x, x < N.length → 0 ≤ frm P x ∧ frm P x ≤ (tto P x : Int) ∧ tto P x < P.length := by
  have key : ∀ x, x < N.length → ∃ k l : Nat, frm P x = (k : Int) ∧ tto P x = l ∧ k ≤ l ∧ l < P.length ∧ ∀ j, j < P.length → ((gn P j).testBit x = true ↔ k ≤ j ∧ j ≤ l) := fun x hx => by
    have hn := h.node hN hx
    obtain ⟨k, k1, k2, k3, k4⟩ := frm_first hn
    obtain ⟨l1, l2, l3⟩ := ttoT_last P.length hn
    have hkl : k ≤ ttoT P x P.length := Nat.le_of_not_lt fun hlt => by
      have := k4 _ hlt
      rw [l2] at this; cases this
    refine ⟨k, ttoT P x P.length, k2, rfl, hkl, l1, fun j hj => ⟨fun hb => ⟨Nat.le_of_not_lt fun hlt => ?_, Nat.le_of_not_lt fun hlt => ?_⟩, fun ⟨a, b⟩ => h.cons.at a b l1 k3 l2⟩⟩
    · have := k4 j hlt; rw [hb] at this; cases this
    · have := l3 j hlt hj; rw [hb] at this; cases this
  refine ⟨⟨fun i hi => ?_, fun i j hi hj hne => ?_⟩, fun x hx => ?_⟩
  · obtain ⟨k, l, e1, e2, hkl, -⟩ := key i hi
    simp only [e1, e2]; omega
  · obtain ⟨k, l, e1, e2, hkl, hl, hb⟩ := key i hi
    obtain ⟨k', l', e1', e2', hkl', hl', hb'⟩ := key j hj
    simp only [e1, e2, e1', e2']
    constructor
    · intro he
      obtain ⟨m, m1, m2, m3⟩ := h.edge hN hi hj he
      have := (hb m m1).1 m2
      have := (hb' m m1).1 m3
      omega
    · rintro ⟨a, b⟩
      have hm : max k k' < P.length := by omega
      have h1 := (hb (max k k') hm).2 (by omega)
      have h2 := (hb' (max k k') hm).2 (by omega)
      exact (h.clq hN (mem_gn.2 ⟨_, hm, rfl⟩)).1 i h1 j h2 fun e => hne e.symm
  · obtain ⟨k, l, e1, e2, hkl, hl, -⟩ := key x hx
    rw [e1, e2]
    exact ⟨by omega, by omega, hl⟩
/-- A good row is there exactly if the graph is chordal and no three nodes are apart. -/
theorem good_iff {N : List Nat} (hN : VN N) : (∃ P, Good N P) ↔ (ordG N).isSome = true ∧ firstA N = none := by
  constructor
  · rintro ⟨P, hP⟩
    have := (hP.mdl hN).1
    exact ⟨this.chordal hN, (firstA_none hN).2 (this.no_at hN)⟩
  · rintro ⟨h1, h2⟩
    have hno := (firstH_none hN).1 (ord_some hN h1)
    obtain ⟨R, hR⟩ := has_row hN hno ((firstA_none hN).1 h2) 12 (al N) (al_lt N) (pc_le _)
    exact row_good hN hR
/-! ## The search -/
theorem Good.few {N : List Nat} {P : List Nat} (h : Good N P) : P.length = (mcl N).length :=
  Nat.le_antisymm (h.nodup.length_le_of_subset fun K hK => (h.mem K).1 hK) ((nodup_mcl N).length_le_of_subset fun K hK => (h.mem K).2 hK)
/-- What the search knows of the row so far. -/
structure Know (L pre : List Nat) (used seen over : Nat) : Prop where
  used : ∀ i, i < L.length → (used.testBit i = true ↔ gn L i ∈ pre)
  seen : ∀ x, seen.testBit x = true ↔ ∃ a ∈ pre, a.testBit x = true
  over : ∀ x, over.testBit x = true ↔ ∃ a b, [a, b].Sublist pre ∧ a.testBit x = true ∧ b.testBit x = false
  mem : ∀ K ∈ pre, K ∈ L
  nodup : pre.Nodup
  cons : Cons pre
theorem Know.zero (L : List Nat) : Know L [] 0 0 0 :=
  ⟨fun i _ => by simp, fun x => by simp, fun x => ⟨fun h => by simp at h, fun ⟨a, b, h, _⟩ => by have := h.length_le; simp at this⟩, fun K hK => by (cases hK), List.nodup_nil, fun a b c h => by have := h.length_le; simp at this⟩
theorem gn_inj {L : List Nat} (h : L.Nodup) {i j : Nat} (hi : i < L.length) (hj : j < L.length) (e : gn L i = gn L j) : i = j := by
  rw [← gn_get hi, ← gn_get hj] at e
  exact (List.getElem_inj h).1 e
theorem pair_snoc {a b c : Nat} {A : List Nat} (h : [a, b].Sublist (A ++ [c])) : [a, b].Sublist A ∨ (a ∈ A ∧ b = c) := by
  rcases two_app h with h | ⟨h1, h2⟩ | h
  · exact .inl h
  · exact .inr ⟨h1, by simpa using h2⟩
  · have := h.length_le; simp at this
theorem and_zero' {a b : Nat} : a &&& b = 0 ↔ ∀ i, a.testBit i = true → b.testBit i = false := by
  rw [set_zero]
  constructor
  · intro h i hi
    have := h i
    rw [Nat.testBit_and, hi] at this
    simpa using this
  · intro h i
    rw [Nat.testBit_and]
    cases hi : a.testBit i with
    | false => rfl
    | true => rw [h i hi]; rfl
theorem Know.next {L pre : List Nat} {used seen over i : Nat} (hL : L.Nodup) (h : Know L pre used seen over) (hi : i < L.length) (hu : used.testBit i = false) (ho : gn L i &&& over = 0) :
    Know L (pre ++ [gn L i]) (used ||| 2 ^ i) (seen ||| gn L i) (over ||| nSub seen (gn L i)) := by
  have hni : gn L i ∉ pre := fun hm => by rw [(h.used i hi).2 hm] at hu; cases hu
  rw [and_zero'] at ho
  refine ⟨fun j hj => ?_, fun x => ?_, fun x => ?_, fun K hK => ?_, ?_, fun a b c habc x ha hc => ?_⟩
  · rw [Nat.testBit_or, two_bit, Bool.or_eq_true, decide_eq_true_eq, h.used j hj, List.mem_append, List.mem_singleton]
    constructor
    · rintro (h1 | rfl)
      · exact .inl h1
      · exact .inr rfl
    · rintro (h1 | h1)
      · exact .inl h1
      · exact .inr (gn_inj hL hi hj h1.symm)
  · rw [Nat.testBit_or, Bool.or_eq_true, h.seen]
    simp only [List.mem_append, List.mem_singleton]
    constructor
    · rintro (⟨a, h1, h2⟩ | h1)
      · exact ⟨a, .inl h1, h2⟩
      · exact ⟨_, .inr rfl, h1⟩
    · rintro ⟨a, h1 | rfl, h2⟩
      · exact .inl ⟨a, h1, h2⟩
      · exact .inr h2
  · rw [Nat.testBit_or, Bool.or_eq_true, h.over, nSub_bit, Bool.and_eq_true, Bool.not_eq_true', h.seen]
    constructor
    · rintro (⟨a, b, h1, h2, h3⟩ | ⟨⟨a, h1, h2⟩, h3⟩)
      · exact ⟨a, b, h1.trans (List.sublist_append_left _ _), h2, h3⟩
      · exact ⟨a, _, (show [a].Sublist pre by simpa using h1).append (List.Sublist.refl [gn L i]), h2, h3⟩
    · rintro ⟨a, b, h1, h2, h3⟩
      rcases pair_snoc h1 with h4 | ⟨h4, rfl⟩
      · exact .inl ⟨a, b, h4, h2, h3⟩
      · exact .inr ⟨⟨a, h4, h2⟩, h3⟩
  · rcases List.mem_append.1 hK with h1 | h1
    · exact h.mem K h1
    · have : K = gn L i := by simpa using h1
      rw [this]; exact mem_gn.2 ⟨i, hi, rfl⟩
  · rw [List.nodup_append]
    exact ⟨h.nodup, by simp, fun a ha b hb e => hni (by have : b = gn L i := by simpa using hb
                                                        rw [← this, ← e]; exact ha)⟩
  · rcases three_app habc with h1 | ⟨h1, h2⟩ | ⟨h1, h2⟩ | h1
    · exact h.cons a b c h1 x ha hc
    · have : c = gn L i := by simpa using h2
      subst this
      cases hb : b.testBit x with
      | true => rfl
      | false =>
        have := ho x hc
        rw [(h.over x).2 ⟨a, b, h1, ha, hb⟩] at this; cases this
    · have := h2.length_le; simp at this
    · have := h1.length_le; simp at this
theorem rdfs_sound {L : List Nat} (hL : L.Nodup) : ∀ (f used seen over : Nat) (pre res : List Nat), Know L pre used seen over → rdfs L f used seen over pre = some res → res.length = pre.length + f ∧ Cons res ∧ res.Nodup ∧ ∀ K ∈ res, K ∈ L
  | 0, used, seen, over, pre, res, hK, h => by
    have : pre = res := by simpa [rdfs] using h
    subst this
    exact ⟨by omega, hK.cons, hK.nodup, hK.mem⟩
  | f + 1, used, seen, over, pre, res, hK, h => by
    rw [rdfs_succ] at h
    obtain ⟨i, hi, h⟩ := List.exists_of_findSome?_eq_some h
    unfold rdfsF at h
    split at h
    · rename_i hc
      rw [Bool.and_eq_true, Bool.not_eq_true', decide_eq_true_eq] at hc
      have hil : i < L.length := by simpa using hi
      obtain ⟨a, b, c, d⟩ := rdfs_sound hL f _ _ _ _ res (hK.next hL hil hc.1 hc.2) h
      exact ⟨by rw [a]; simp; omega, b, c, d⟩
    · cases h
theorem rdfs_complete {L : List Nat} (hL : L.Nodup) : ∀ (f used seen over : Nat) (pre rest : List Nat), Know L pre used seen over → rest.length = f → Cons (pre ++ rest) → (pre ++ rest).Nodup → (∀ K ∈ rest, K ∈ L) → (rdfs L f used seen over pre).isSome = true
  | 0, used, seen, over, pre, rest, hK, _, _, _, _ => rfl
  | f + 1, used, seen, over, pre, rest, hK, hlen, hc, hnd, hm => by
    match rest, hlen with
    | c :: rest', hlen =>
      obtain ⟨i, hi, rfl⟩ := mem_gn.1 (hm c (by simp))
      have hni : gn L i ∉ pre := fun h => (List.nodup_append.1 hnd).2.2 _ h _ (by simp) rfl
      have hu : used.testBit i = false := by
        cases h : used.testBit i with
        | false => rfl
        | true => exact absurd ((hK.used i hi).1 h) hni
      have ho : gn L i &&& over = 0 := by
        rw [and_zero']
        intro x hx
        cases h : over.testBit x with
        | false => rfl
        | true =>
          obtain ⟨a, b, h1, h2, h3⟩ := (hK.over x).1 h
          have := hc a b (gn L i) (app_three.1 ⟨h1, by simp⟩) x h2 hx
          rw [h3] at this; cases this
      have := rdfs_complete hL f _ _ _ (pre ++ [gn L i]) rest' (hK.next hL hi hu ho) (by simpa using hlen) (by simpa using hc) (by simpa using hnd) (fun K hK => hm K (by simp [hK]))
      rw [rdfs_succ, List.findSome?_isSome_iff]
      refine ⟨i, by simpa using hi, ?_⟩
      unfold rdfsF
      rw [hu, ho]
      exact this
theorem rowOf_good {N : List Nat} (h : ∃ P, Good N P) : Good N (rowOf N) := by
  obtain ⟨P, hP⟩ := h
  have h1 := rdfs_complete (nodup_mcl N) (mcl N).length 0 0 0 [] P (Know.zero _) hP.few (by simpa using hP.cons) (by simpa using hP.nodup) fun K hK => (hP.mem K).1 hK
  obtain ⟨res, hres⟩ := Option.isSome_iff_exists.1 h1
  have e : rowOf N = res := by unfold rowOf; rw [hres]; rfl
  obtain ⟨a, b, c, d⟩ := rdfs_sound (nodup_mcl N) _ _ _ _ _ _ (Know.zero _) hres
  rw [e]
  refine ⟨b, fun K => ⟨d K, fun hK => ?_⟩, c⟩
  -- as long as the list, and within it: the same
  refine Classical.byContradiction fun hn => ?_
  have : (K :: res).Nodup := List.nodup_cons.2 ⟨hn, c⟩
  have := this.length_le_of_subset (l₂ := mcl N) fun L hL => by
    rcases List.mem_cons.1 hL with rfl | h
    · exact hK
    · exact d L h
  simp at a this; omega
end Go.Proofs.YtmpjanpmkmlloaaDoor
