/- Contracts of the reference: three nodes that are apart, cliques that can be listed. The table of bits is laid (Tab). -/
import Derived.Test.YtmpjanpmkmlloaaDoorCt
import Derived.Test.YtmpjanpmkmlloaaDoorCu
import Derived.Laws.StructEq
namespace Go.Proofs.YtmpjanpmkmlloaaDoor
open Go Go.RowKit VC
set_option linter.unusedSimpArgs false
set_option linter.unusedVariables false

theorem three_c {w : World} {v : Value} {N : List Nat} (hs : SlI w v (ofN N)) (hN : VN N) {a b c : Nat} (hab : a < b) (hbc : b < c) (hc : c < N.length) {r : Bool} (hr : r = true ↔ AT N a b c) :
    Calls Tryd.prog 85 #[v, .int .i64 (a : Int), .int .i64 (b : Int), .int .i64 (c : Int), .int .i64 ((al N : Nat) : Int)] w (Ret w (.bool r)) := by
  refine f85_calls _ _ _ _ _ ?_
  have h12 := hN.le
  have hp := hN.pow
  have hal := al_lt N
  have pw : ∀ {i}, i < N.length → 2 ^ i < 2 ^ N.length := fun h => Nat.pow_lt_pow_right (by omega) h
  have ha2 := pw (show a < N.length by omega)
  have hb2 := pw (show b < N.length by omega)
  have hc2 := pw hc
  have hset : iOr .i64 (iOr .i64 (iShl .i64 1 (a : Int)) (iShl .i64 1 (b : Int))) (iShl .i64 1 (c : Int)) = ((2 ^ a ||| 2 ^ b ||| 2 ^ c : Nat) : Int) := by
    have := Nat.or_lt_two_pow ha2 hb2
    rw [iShl_one (by omega), iShl_one (by omega), iShl_one (by omega), iOr_nat (by omega) (by omega), iOr_nat (by omega) (by omega)]
  have hlt : 2 ^ a ||| 2 ^ b ||| 2 ^ c < 2 ^ N.length := Nat.or_lt_two_pow (Nat.or_lt_two_pow ha2 hb2) hc2
  have bit : ∀ j, (2 ^ a ||| 2 ^ b ||| 2 ^ c).testBit j = true ↔ j = a ∨ j = b ∨ j = c := fun j => by
    rw [Nat.testBit_or, Nat.testBit_or, two_bit, two_bit, two_bit, Bool.or_eq_true, Bool.or_eq_true, decide_eq_true_eq, decide_eq_true_eq, decide_eq_true_eq]
    omega
  have hfree : free N (2 ^ a ||| 2 ^ b ||| 2 ^ c) = true ↔ ¬ E N a b ∧ ¬ E N a c ∧ ¬ E N b c := by
    rw [free_iff (by omega)]
    unfold E
    constructor
    · intro h
      have h1 := h a ((bit a).2 (.inl rfl)) b ((bit b).2 (.inr (.inl rfl)))
      have h2 := h a ((bit a).2 (.inl rfl)) c ((bit c).2 (.inr (.inr rfl)))
      have h3 := h b ((bit b).2 (.inr (.inl rfl))) c ((bit c).2 (.inr (.inr rfl)))
      rw [h1, h2, h3]; simp
    · rintro ⟨h1, h2, h3⟩ i hi j hj
      rw [Bool.not_eq_true] at h1 h2 h3
      rcases (bit i).1 hi with e | e | e <;> rcases (bit j).1 hj with e' | e' | e' <;> rw [e, e'] <;> first
        | exact hN.irr' _
        | assumption
        | (rw [hN.sym']; assumption)
  have haw : ∀ z, z < N.length → iAndNot .i64 (iAndNot .i64 ((al N : Nat) : Int) ((nb N z : Nat) : Int)) (iShl .i64 1 (z : Int)) = ((away N z : Nat) : Int) := fun z hz => by
    rw [clq_expr (by omega) (hN.nb_lt' z) (by omega)]; rfl
  have no : ∀ {w'}, Grow w w' → ¬ AT N a b c → Ret w (.bool r) (.returned (.bool false)) w' := fun hg h => by
    have : r = false := by cases r with | false => rfl | true => exact absurd (hr.1 rfl) h
    subst this
    exact ⟨rfl, hg⟩
  refine ⟨by omega, by omega, by omega, free N (2 ^ a ||| 2 ^ b ||| 2 ^ c), fun w1 g1 => ?_, condP_i (fun hf => ?_) fun hf w' g' => no g' fun hat => ?_⟩
  · rw [hset]
    exact refFree_c (hs.grow g1) hN hlt
  · obtain ⟨n1, n2, n3⟩ := hfree.1 hf
    have call : ∀ z x y, z < N.length → x < N.length → y < N.length → ∀ {K : Bool → Prop}, (∀ q : Bool, (q = true ↔ Link N z x y) → K q) →
        ∃ (a_v5 : Addr) (n_v6 c_v7 : Nat), v = Value.slice (some a_v5) n_v6 c_v7 ∧ ((0 : Int) ≤ (z : Int) ∧ (z : Int) < (n_v6 : Int)) ∧ ∃ t8 : Int, w.cell? (a_v5.add (Int.toNat (z : Int) * 1)) = some (Value.int .i64 t8) ∧ (0 : Int) ≤ (z : Int) ∧ ∃ t12 : Bool, (∀ w9, Grow w w9 → Calls Tryd.prog 109 #[v, (Value.int .i64 (x : Int)), (Value.int .i64 (y : Int)), (Value.int .i64 (iAndNot .i64 (iAndNot .i64 ((al N : Nat) : Int) t8) (iShl .i64 1 (z : Int))))] w9 fun e w10 => e = .returned (Value.bool t12) ∧ Grow w9 w10) ∧ K t12 := fun z x y hz hx hy {K} hK => by
      refine hs.rd rfl (by simpa using hz) ?_
      rw [ofN_get, nb_get]
      open Classical in
      refine ⟨by omega, decide (Link N z x y), fun w9 g9 => ?_, hK _ (by simp)⟩
      rw [haw z hz]
      exact linked_c (hs.grow g9) hN hx hy (away_lt N z) (by rw [decide_eq_true_eq]; rfl)
    refine call a b c (by omega) (by omega) hc fun q1 h1 => condP_i (fun t1 => call b a c (by omega) (by omega) hc fun q2 h2 => condP_i (fun t2 => call c a b hc (by omega) (by omega) fun q3 h3 w' g' => ?_) fun t2 w' g' => no g' fun hat => ?_) fun t1 w' g' => no g' fun hat => ?_
    · have : r = q3 := by
        rw [Bool.eq_iff_iff, hr, h3]
        exact ⟨fun hat => hat.lc, fun hl => ⟨by omega, by omega, by omega, n1, n2, n3, h1.1 t1, h2.1 t2, hl⟩⟩
      subst this
      exact ⟨rfl, g'⟩
    · rw [h2.2 hat.lb] at t2; cases t2
    · rw [h1.2 hat.la] at t1; cases t1
  · rw [hfree.2 ⟨hat.nab, hat.nac, hat.nbc⟩] at hf; cases hf
theorem refApart_c {w : World} {v : Value} {N : List Nat} (hs : SlI w v (ofN N)) (hN : VN N) : Calls Tryd.prog 35 #[v] w (Ret w (.tuple #[.agg (atA (firstA N)), .int .i64 (if (firstA N).isSome then 0 else 5)])) := by
  refine f35_calls _ ?_
  have h12 := hN.le
  have hp := hN.pow
  intro w1 hw1
  have g1 := alloc_grow hw1
  have s1 := alloc_size hw1
  have hrow1 : w1.heap[w.heap.size]? = some (.cells (v3 0 0 0) 45 (0, 0)) := by subst hw1; exact heap_alloc_new w _
  have hone := Nat.pow_pos (n := N.length) (show 0 < 2 by omega)
  have hall : iShl .i64 1 (N.length : Int) - 1 = ((al N : Nat) : Int) := by
    rw [iShl_one (by omega)]; unfold al; omega
  refine hs.ln ?_
  rw [ofN_len, hall]
  have hal := al_lt N
  refine ⟨by omega, by unfold inR; omega, hs.ln ?_⟩
  rw [ofN_len]
  refine ⟨fun t w' => ∃ x : Nat, t = x ∧ x ≤ N.length ∧ Grow w1 w' ∧ ∀ a b c, a < x → ¬ (a < b ∧ b < c ∧ AT N a b c), fun t _ => N.length - t.toNat, ⟨0, rfl, by omega, Grow.refl w1, fun a b c h => by omega⟩, ?_⟩
  rintro - t w3 ⟨x, rfl, hx, g3, h0⟩
  refine condD (fun hlt => ⟨by unfold inR; omega, ?_⟩) (fun hge => ?_)
  · have hxl : x < N.length := by omega
    refine ⟨fun t w' => ∃ y : Nat, t = y ∧ y ≤ N.length ∧ x < y ∧ Grow w1 w' ∧ ∀ b c, b < y → ¬ (x < b ∧ b < c ∧ AT N x b c), fun t _ => N.length - t.toNat, ⟨x + 1, by omega, by omega, by omega, g3, fun b c h hh => by omega⟩, ?_⟩
    rintro - t w4 ⟨y, rfl, hy, hxy, g4, h1⟩
    refine (hs.grow (g1.trans g4)).ln ?_
    rw [ofN_len]
    refine condD (fun hlt2 => ⟨by unfold inR; omega, ?_⟩) (fun hge2 => ?_)
    · have hyl : y < N.length := by omega
      refine ⟨fun t w' => ∃ z : Nat, t = z ∧ z ≤ N.length ∧ y < z ∧ Grow w1 w' ∧ ∀ c, c < z → ¬ (x < y ∧ y < c ∧ AT N x y c), fun t _ => N.length - t.toNat, ⟨y + 1, by omega, by omega, by omega, g4, fun c h hh => by omega⟩, ?_⟩
      rintro - t w5 ⟨z, rfl, hz, hyz, g5, h2⟩
      have g05 := g1.trans g5
      refine (hs.grow g05).ln ?_
      rw [ofN_len]
      refine condD (fun hlt3 => ?_) (fun hge3 => ?_)
      · have hzl : z < N.length := by omega
        open Classical in
        refine (three_c (r := decide (AT N x y z)) (hs.grow g05) hN hxy hyz hzl (by simp)).mono ?_
        rintro e w8 ⟨rfl, g8⟩
        have g18 := g5.trans g8
        refine ⟨_, rfl, condP_i (fun hb => ?_) (fun hb => ?_)⟩
        · have hat : AT N x y z := by simpa using hb
          have hfirst := find3 hxl hyl hzl h0 h1 h2 ⟨hxy, hyz, hat⟩
          obtain ⟨w9, hr9, hf9, hrow9⟩ := store_row (P := Tryd.prog) (cs := v3 x y z) (grow_row g18 hrow1) rfl (v3_one _ _ _)
          refine ⟨v3 x y z, rfl, rfl, w9, hr9, (v3 x y z).toList, rfl, row_cells hrow9, ?_⟩
          rw [hfirst]
          exact ⟨rfl, (g1.trans g18).fr hf9 fun i hi e => by omega⟩
        · refine ⟨by unfold inR; omega, ⟨z + 1, by omega, by omega, by omega, g18, fun c hc hh => ?_⟩, by dsimp only; omega⟩
          by_cases e : c = z
          · subst e; simp [hh.2.2] at hb
          · exact h2 c (by omega) hh
      · refine ⟨by unfold inR; omega, ⟨y + 1, by omega, by omega, by omega, g5, fun b c hb hh => ?_⟩, by dsimp only; omega⟩
        by_cases e : b = y
        · subst e
          exact h2 c (by have := hh.2.2.lt; omega) hh
        · exact h1 b c (by omega) hh
    · refine ⟨by unfold inR; omega, ⟨x + 1, by omega, by omega, g4, fun a b c ha hh => ?_⟩, by dsimp only; omega⟩
      by_cases e : a = x
      · subst e
        exact h1 b c (by have := hh.2.2.lt; omega) hh
      · exact h0 a b c (by omega) hh
  · have hfirst : firstA N = none := by
      unfold firstA
      rw [List.findSome?_eq_none_iff]
      intro a ha
      rw [List.findSome?_eq_none_iff]
      intro b _
      rw [List.findSome?_eq_none_iff]
      intro c _
      rw [if_neg (h0 a b c (by have := List.mem_range.1 ha; omega))]
    obtain ⟨w9, hr9, hf9, hrow9⟩ := store_row (P := Tryd.prog) (cs := v3 0 0 0) (grow_row g3 hrow1) rfl (v3_one _ _ _)
    rw [hfirst]
    exact ⟨v3 0 0 0, rfl, rfl, w9, hr9, _, rfl, row_cells hrow9, rfl, (g1.trans g3).fr hf9 fun i hi e => by omega⟩
/-! ## Listed -/
theorem encI_one (xs : List Int) : ∀ u ∈ xs.map encI, u.oneCell' = true := fun u hu => by
  obtain ⟨x, _, rfl⟩ := List.mem_map.1 hu
  rfl
theorem SlI.from {w : World} {v : Value} {xs : List Int} (h : SlI w v xs) {i : Nat} {k : IntKind} {z : Int} (hz : z = (i : Int)) (hi : i ≤ xs.length) {K : Value → Prop} (hk : ∀ v', SlI w v' (xs.drop i) → K v') :
    ∃ (a : Option Addr) (n c : Nat), v = .slice a n c ∧ ∃ l hh m : Nat, sbR (some (.int k z)) none none n c l hh m ∧ K (.slice (if m = l then a else a.map (·.add (l * 1))) (hh - l) (m - l)) := by
  subst hz
  obtain ⟨a, c, rfl, h1, h2, h3, h4⟩ := h.ex
  refine ⟨a, _, c, rfl, i, xs.length, c, ⟨rfl, rfl, rfl, by simp, by omega, by omega, by omega⟩, hk _ ?_⟩
  refine ⟨if c = i then a else a.map (·.add (i * 1)), c - i, ?_, by simp; omega, by omega, fun hn => ?_, fun j u hj => ?_⟩
  · have : (xs.drop i).length = xs.length - i := by simp
    rw [this]
  · by_cases hc : c = i
    · omega
    · rw [if_neg hc] at hn
      cases a with
      | none => have := h3 rfl; omega
      | some b => cases hn
  · have hj' : (xs.map encI)[i + j]? = some u := by
      have : (xs.drop i).map encI = (xs.map encI).drop i := by simp
      rw [this, List.getElem?_drop] at hj
      exact hj
    obtain ⟨b, rfl, hb⟩ := h4 (i + j) u hj'
    have hlt : i + j < xs.length := by simpa using (List.getElem?_eq_some_iff.1 hj').1
    rw [if_neg (by omega)]
    exact ⟨b.add (i * 1), rfl, by rw [add_add, Nat.mul_one]; exact hb⟩
def lstN : Nat → List Nat → Nat → Nat → Bool
  | 0, left, _, _ => left.isEmpty
  | f + 1, left, last, gone => left.isEmpty || (List.range left.length).any fun i => decide (gn left i &&& gone = 0) && lstN f (left.take i ++ left.drop (i + 1)) (gn left i) (gone ||| nSub last (gn left i))
theorem listed_c : ∀ (f : Nat) (left : List Nat) (last gone : Nat) (w : World) (v : Value), SlI w v (ofN left) → left.length = f → f ≤ 4096 → (∀ K ∈ left, K < 4096) → last < 4096 → gone < 4096 →
    Calls Tryd.prog 86 #[v, .int .i64 (last : Int), .int .i64 (gone : Int)] w (Ret w (.bool (lstN f left last gone)))
  | 0, left, last, gone, w, v, hs, hf, hf2, hK, hl, hg => by
    refine f86_calls _ _ _ ?_
    have : left = [] := by simpa using hf
    subst this
    refine hs.ln (cT (by simp) ⟨rfl, Grow.refl w⟩)
  | f + 1, left, last, gone, w, v, hs, hf, hf2, hK, hl, hg => by
    refine f86_calls _ _ _ ?_
    have hne : left ≠ [] := fun e => by subst e; simp at hf
    have hemp : left.isEmpty = false := by cases left with | nil => exact absurd rfl hne | cons _ _ => rfl
    have unf : lstN (f + 1) left last gone = (List.range left.length).any fun i => decide (gn left i &&& gone = 0) && lstN f (left.take i ++ left.drop (i + 1)) (gn left i) (gone ||| nSub last (gn left i)) := by
      conv => lhs; unfold lstN
      rw [hemp, Bool.false_or]
    refine hs.ln (condD (fun h => absurd h (by simp; omega)) fun _ => hs.ln ?_)
    rw [ofN_len]
    refine ⟨fun t w' => ∃ k : Nat, t = k ∧ k ≤ left.length ∧ Grow w w' ∧ ∀ i, i < k → (decide (gn left i &&& gone = 0) && lstN f (left.take i ++ left.drop (i + 1)) (gn left i) (gone ||| nSub last (gn left i))) = false, fun t _ => left.length - t.toNat, ⟨0, rfl, by omega, Grow.refl w, fun i h => by omega⟩, ?_⟩
    rintro - t w1 ⟨k, rfl, hk, g1, hno⟩
    refine condD (fun hlt => ?_) (fun hge => ?_)
    · have hkl : k < left.length := by omega
      have hc4 := hK _ (List.getElem_mem hkl)
      rw [gn_get hkl] at hc4
      refine (hs.grow g1).rd rfl (by simpa using hkl) ?_
      rw [ofN_get, gn_get hkl, and_expr hc4 hg]
      refine condP_i (fun h => ?_) (fun h m => ?_)
      · have : ¬ gn left k &&& gone = 0 := by simp only [Bool.not_eq_true', decide_eq_false_iff_not] at h; omega
        refine ⟨by unfold inR; omega, ⟨k + 1, by omega, by omega, g1, fun i hi => ?_⟩, by dsimp only; omega⟩
        by_cases e : i = k
        · subst e; simp [this]
        · exact hno i (by omega)
      · have h0 : gn left k &&& gone = 0 := by simp only [Bool.not_eq_false', decide_eq_true_eq] at h; omega
        have hs1 := (hs.grow g1).dr m
        obtain ⟨a0, n0, c0, e0, l0, hh0, m0, hsb, hv1⟩ := (hs.grow g1).upto (K := fun v' => SlI w1 v' ((ofN left).take k)) (k := .i64) rfl (show k ≤ (ofN left).length by simp; omega) (fun _ h => h)
        refine ⟨a0, n0, c0, e0, l0, hh0, m0, hsb, by unfold inR; omega, ?_⟩
        obtain ⟨a1, n1, c1, e1, l1, hh1, m1, hsb1, hv2⟩ := SlI.from (hs.grow g1) (K := fun v' => SlI w1 v' ((ofN left).drop (k + 1))) (k := .i64) (show ((k : Int) + 1) = ((k + 1 : Nat) : Int) by omega) (show k + 1 ≤ (ofN left).length by simp; omega) (fun _ h => h)
        refine ⟨a1, n1, c1, e1, l1, hh1, m1, hsb1, fun w2 hw2 => ?_⟩
        have g12 : Grow w1 w2 := ((Grow.refl w1).dr m).trans (alloc_grow hw2)
        have s2 := alloc_size hw2
        have hlit := Own.lit (B := w1.heap.size) (n := 0) (sz := 1) hw2 (Nat.le_refl _) (by omega) (by simp)
        refine papp el_int (by omega) hlit (hv1.grow g12) (by simp) (encI_one _) (by rw [s2]; simp) (by simp; omega) (by omega) ?_
        intro v3 w3 ho3 hf3 _
        have g13 : Grow w1 w3 := g12.fr hf3 fun i hi e => by simp [Value.ownBlock] at e; omega
        refine papp el_int (by omega) ho3 (hv2.grow g13) (by simp) (encI_one _) g13.size (by simp; omega) (by omega) ?_
        intro v4 w4 ho4 hf4 _
        have g14 : Grow w1 w4 := g13.fr hf4 fun i hi e => by have := (Own.lt ho3 e.symm).1; omega
        have hnew : SlI w4 v4 (ofN (left.take k ++ left.drop (k + 1))) := by
          have h5 := Own.slC ho4
          unfold SlI
          have e1 : (ofN (left.take k ++ left.drop (k + 1))).length = 0 + ((ofN left).take k).length + ((ofN left).drop (k + 1)).length := by simp
          have e2 : (ofN (left.take k ++ left.drop (k + 1))).map encI = #[].toList ++ ((ofN left).take k).map encI ++ ((ofN left).drop (k + 1)).map encI := by simp [ofN]
          rw [e1, e2]
          exact h5
        have hn4 : nSub last (gn left k) < 4096 := nSub_lt (n := 12) hl
        have hgo : gone ||| nSub last (gn left k) < 4096 := Nat.or_lt_two_pow (n := 12) hg hn4
        rw [iAndNot_nat (by omega) (by omega), iOr_nat (by omega) (by omega)]
        refine (listed_c f _ _ _ w4 v4 hnew (by simp; omega) (by omega) (fun K hK' => ?_) hc4 hgo).mono ?_
        · rcases List.mem_append.1 hK' with h | h
          · exact hK K (List.mem_of_mem_take h)
          · exact hK K (List.mem_of_mem_drop h)
        rintro e w5 ⟨rfl, g5⟩
        refine ⟨_, rfl, condP_i (fun hb => ?_) (fun hb => ?_)⟩
        · refine ⟨?_, (g1.trans g14).trans g5⟩
          rw [unf]
          have : ((List.range left.length).any fun i => decide (gn left i &&& gone = 0) && lstN f (left.take i ++ left.drop (i + 1)) (gn left i) (gone ||| nSub last (gn left i))) = true := List.any_eq_true.2 ⟨k, by simpa using hkl, by rw [hb, h0]; rfl⟩
          rw [this]
        · refine ⟨by unfold inR; omega, ⟨k + 1, by omega, by omega, (g1.trans g14).trans g5, fun i hi => ?_⟩, by dsimp only; omega⟩
          by_cases e : i = k
          · subst e; rw [hb, Bool.and_false]
          · exact hno i (by omega)
    · refine ⟨?_, g1⟩
      rw [unf]
      have : ((List.range left.length).any fun i => decide (gn left i &&& gone = 0) && lstN f (left.take i ++ left.drop (i + 1)) (gn left i) (gone ||| nSub last (gn left i))) = false := List.any_eq_false.2 fun i hi => by
        rw [hno i (by have := List.mem_range.1 hi; omega)]; simp
      rw [this]
/-- What 'listed' knows. -/
structure Lst (pre : List Nat) (last gone : Nat) : Prop where
  over : ∀ x, gone.testBit x = true → ∃ a b, [a, b].Sublist pre ∧ a.testBit x = true ∧ b.testBit x = false
  all : ∀ a b, [a, b].Sublist pre → ∀ x, a.testBit x = true → b.testBit x = false → gone.testBit x = true
  fin : ∀ x, last.testBit x = true → ∃ a ∈ pre, a.testBit x = true
  end_ : ∀ a ∈ pre, ∀ x, a.testBit x = true → last.testBit x = true ∨ gone.testBit x = true
  cons : Cons pre
theorem Lst.zero : Lst [] 0 0 := ⟨fun x h => by simp at h, fun a b h => by have := h.length_le; simp at this, fun x h => by simp at h, fun a h => by (cases h), fun a b c h => by have := h.length_le; simp at this⟩
theorem Lst.next {pre : List Nat} {last gone c : Nat} (h : Lst pre last gone) (h0 : c &&& gone = 0) : Lst (pre ++ [c]) c (gone ||| nSub last c) := by
  rw [and_zero'] at h0
  refine ⟨fun x hx => ?_, fun a b hab x ha hb => ?_, fun x hx => ⟨c, by simp, hx⟩, fun a ha x hx => ?_, fun a b d habc x ha hd => ?_⟩
  · rw [Nat.testBit_or, Bool.or_eq_true, nSub_bit, Bool.and_eq_true, Bool.not_eq_true'] at hx
    rcases hx with hx | ⟨h1, h2⟩
    · obtain ⟨a, b, h1, h2, h3⟩ := h.over x hx
      exact ⟨a, b, h1.trans (List.sublist_append_left _ _), h2, h3⟩
    · obtain ⟨a, ha, hax⟩ := h.fin x h1
      exact ⟨a, c, (show [a].Sublist pre by simpa using ha).append (List.Sublist.refl [c]), hax, h2⟩
  · rw [Nat.testBit_or, Bool.or_eq_true, nSub_bit, Bool.and_eq_true, Bool.not_eq_true']
    rcases pair_snoc hab with h1 | ⟨h1, rfl⟩
    · exact .inl (h.all a b h1 x ha hb)
    · rcases h.end_ a h1 x ha with h2 | h2
      · exact .inr ⟨h2, hb⟩
      · exact .inl h2
  · rw [Nat.testBit_or, Bool.or_eq_true, nSub_bit, Bool.and_eq_true, Bool.not_eq_true']
    rcases List.mem_append.1 ha with h1 | h1
    · rcases h.end_ a h1 x hx with h2 | h2
      · cases hc : c.testBit x with
        | true => exact .inl rfl
        | false => exact .inr (.inr ⟨h2, rfl⟩)
      · exact .inr (.inl h2)
    · have : a = c := by simpa using h1
      subst this; exact .inl hx
  · rcases three_app habc with h1 | ⟨h1, h2⟩ | ⟨h1, h2⟩ | h1
    · exact h.cons a b d h1 x ha hd
    · have : d = c := by simpa using h2
      subst this
      cases hb : b.testBit x with
      | true => rfl
      | false =>
        have := h0 x hd
        rw [h.all a b h1 x ha hb] at this; cases this
    · have := h2.length_le; simp at this
    · have := h1.length_le; simp at this
theorem lst_sound : ∀ (f : Nat) (left pre : List Nat) (last gone : Nat), left.length = f → Lst pre last gone → lstN f left last gone = true → ∃ R, R.Perm left ∧ Cons (pre ++ R)
  | 0, left, pre, last, gone, hf, hL, h => by
    have : left = [] := by simpa using hf
    subst this
    exact ⟨[], List.Perm.refl _, by simpa using hL.cons⟩
  | f + 1, left, pre, last, gone, hf, hL, h => by
    unfold lstN at h
    have hemp : left.isEmpty = false := by cases left with | nil => simp at hf | cons _ _ => rfl
    rw [hemp, Bool.false_or, List.any_eq_true] at h
    obtain ⟨i, hi, h⟩ := h
    have hil : i < left.length := by simpa using hi
    rw [Bool.and_eq_true, decide_eq_true_eq] at h
    obtain ⟨R, hR, hc⟩ := lst_sound f _ (pre ++ [gn left i]) _ _ (by simp; omega) (hL.next h.1) h.2
    refine ⟨gn left i :: R, ?_, by simpa using hc⟩
    refine (hR.cons _).trans ?_
    have : left.take i ++ gn left i :: left.drop (i + 1) = left := by rw [← gn_get hil, ← List.drop_eq_getElem_cons, List.take_append_drop]
    conv => rhs; rw [← this]
    exact List.perm_middle.symm
theorem lst_complete : ∀ (f : Nat) (left pre R : List Nat) (last gone : Nat), left.length = f → Lst pre last gone → R.Perm left → Cons (pre ++ R) → lstN f left last gone = true
  | 0, left, pre, R, last, gone, hf, hL, hp, hc => by
    have : left = [] := by simpa using hf
    subst this; rfl
  | f + 1, left, pre, R, last, gone, hf, hL, hp, hc => by
    unfold lstN
    have hemp : left.isEmpty = false := by cases left with | nil => simp at hf | cons _ _ => rfl
    rw [hemp, Bool.false_or, List.any_eq_true]
    match R, hp, hc with
    | [], hp, hc => have := hp.length_eq; simp at this; omega
    | c :: R', hp, hc =>
      obtain ⟨i, hi, rfl⟩ := mem_gn.1 (hp.subset (by simp : c ∈ c :: R'))
      refine ⟨i, by simpa using hi, ?_⟩
      rw [Bool.and_eq_true, decide_eq_true_eq]
      have h0 : gn left i &&& gone = 0 := by
        rw [and_zero']
        intro x hx
        cases h : gone.testBit x with
        | false => rfl
        | true =>
          obtain ⟨a, b, h1, h2, h3⟩ := hL.over x h
          have := hc a b (gn left i) (app_three.1 ⟨h1, by simp⟩) x h2 hx
          rw [h3] at this; cases this
      refine ⟨h0, lst_complete f _ (pre ++ [gn left i]) R' _ _ (by simp; omega) (hL.next h0) ?_ (by simpa using hc)⟩
      have : left.take i ++ gn left i :: left.drop (i + 1) = left := by rw [← gn_get hi, ← List.drop_eq_getElem_cons, List.take_append_drop]
      have h2 : (gn left i :: R').Perm (gn left i :: (left.take i ++ left.drop (i + 1))) := hp.trans (by
        conv => lhs; rw [← this]
        exact List.perm_middle)
      exact h2.cons_inv
theorem lst_good {N : List Nat} : lstN (mcl N).length (mcl N) 0 0 = true ↔ ∃ P, Good N P := by
  constructor
  · intro h
    obtain ⟨R, hp, hc⟩ := lst_sound _ _ [] _ _ rfl Lst.zero h
    exact ⟨R, by simpa using hc, fun K => hp.mem_iff, hp.nodup_iff.2 (nodup_mcl N)⟩
  · rintro ⟨P, hP⟩
    exact lst_complete _ _ [] P _ _ rfl Lst.zero ((List.perm_ext_iff_of_nodup hP.nodup (nodup_mcl N)).2 hP.mem) (by simpa using hP.cons)
theorem interval_c {w : World} {v : Value} {N : List Nat} (hs : SlI w v (ofN N)) (hN : VN N) {b : Bool} (hb : b = true ↔ ∃ P, Good N P) : Calls Tryd.prog 37 #[v] w (Ret w (.bool b)) := by
  refine f37_calls _ ?_
  have hp := hN.pow
  refine (refOrder_c hs hN).mono ?_
  rintro e w1 ⟨u, rfl, -, g1⟩
  refine ⟨_, _, rfl, condP_i (fun h => ?_) fun h => ?_⟩
  · have : b = false := by
      cases b with
      | false => rfl
      | true =>
        have := ((good_iff hN).1 (hb.1 rfl)).1
        rw [this] at h; simp at h
    subst this
    exact ⟨rfl, g1⟩
  · refine (refCliques_c (hs.grow g1) hN).mono ?_
    rintro e w2 ⟨q, rfl, hq, g2⟩
    have hsmall : ∀ K ∈ mcl N, K < 4096 := fun K hK => Nat.lt_of_lt_of_le (mem_mcl.1 hK).1 hp
    have hlen : (mcl N).length ≤ 4096 := Nat.le_trans (mclT_len N _) hp
    refine ⟨q, rfl, (listed_c (mcl N).length (mcl N) 0 0 w2 q hq.slI rfl hlen hsmall (by omega) (by omega)).mono ?_⟩
    rintro e w3 ⟨rfl, g3⟩
    have : lstN (mcl N).length (mcl N) 0 0 = b := by rw [Bool.eq_iff_iff, lst_good, hb]
    rw [this]
    exact ⟨_, rfl, rfl, (g1.trans g2).trans g3⟩
theorem equal3 {P : Program} {t e : TypeId} (ht : P.underlying t = some (.array 3 e)) (he : P.underlying e = some (.int .i64)) (hs : P.cellsOf e = 1) (d : Nat) (a b c x y z : Int) (w : World) :
    (Op.equalIn (d + 2) t (.agg #[.int .i64 a, .int .i64 b, .int .i64 c]) (.agg #[.int .i64 x, .int .i64 y, .int .i64 z])).run P w = .ok (decide (a = x ∧ b = y ∧ c = z)) w := by
  have hsz : (sizeOf e).run P w = .ok 1 w := by rw [cellsOf_run (by omega), hs]
  have pt : ∀ (xs : Array Value) (i : Nat) (v : Value), xs[i]? = some v → (part e xs i).run P w = .ok v w := fun xs i v hv => part_one he (by intro fs h; cases h) (by intro n e' h; cases h) xs i v hv w
  have i1 : ∀ u v : Int, (Op.equalIn (d + 1) e (.int .i64 u) (.int .i64 v)).run P w = .ok (u == v) w := fun u v => run_equalIn_int w d e .i64 .i64 u v he
  rw [Op.equalIn]
  simp only [Sem.run_bind, underlying_run ht, Result.andThen_ok, hsz]
  rw [Std.Legacy.Range.forIn_eq_forIn_range']
  have hr : List.range' 0 3 1 = [0, 1, 2] := rfl
  simp [Std.Legacy.Range.size, hr, pt, i1]
  by_cases h1 : a = x <;> by_cases h2 : b = y <;> by_cases h3 : c = z <;> simp [h1, h2, h3]
theorem el_arr3 : Tryd.prog.underlying 45 = some (.array 3 3) ∧ Tryd.prog.underlying 3 = some (.int .i64) ∧ Tryd.prog.cellsOf 3 = 1 ∧ Tryd.prog.eqGuardType Tryd.prog.depth 45 = false := ⟨by kernel_rfl, by kernel_rfl, by kernel_rfl, by kernel_rfl⟩
theorem eql3 {ox oy : Operand} (a b c x y z : Int) : PBinR Tryd.prog .eql 45 ox oy (.agg #[.int .i64 a, .int .i64 b, .int .i64 c]) (.agg #[.int .i64 x, .int .i64 y, .int .i64 z]) (decide (a = x ∧ b = y ∧ c = z)) := fun w => by
  obtain ⟨h1, h2, h3, h4⟩ := el_arr3
  simp only [Sem.run_bind, run_eqGuard_agg (hm := h4), Result.andThen_ok, run_eql_struct]
  rw [show (10000 : Nat) = 9998 + 2 from rfl, equal3 h1 h2 h3]
  rfl
theorem neq3 {ox oy : Operand} (a b c x y z : Int) : PBinR Tryd.prog .neq 45 ox oy (.agg #[.int .i64 a, .int .i64 b, .int .i64 c]) (.agg #[.int .i64 x, .int .i64 y, .int .i64 z]) (!decide (a = x ∧ b = y ∧ c = z)) := fun w => by
  obtain ⟨h1, h2, h3, h4⟩ := el_arr3
  simp only [Sem.run_bind, run_eqGuard_agg (hm := h4), Result.andThen_ok, run_neq_struct]
  rw [show (10000 : Nat) = 9998 + 2 from rfl, equal3 h1 h2 h3]
  rfl
end Go.Proofs.YtmpjanpmkmlloaaDoor
