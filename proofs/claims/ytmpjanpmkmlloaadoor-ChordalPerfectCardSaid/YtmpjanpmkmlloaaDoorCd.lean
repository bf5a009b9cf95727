/- Contracts of package chordal and of its reference, third part: CheckOrder, the reference's orders, the shared helpers of the laws. The table of bits is laid (Tab). -/
import Derived.Test.YtmpjanpmkmlloaaDoorCc
namespace Go.Proofs.YtmpjanpmkmlloaaDoor
open Go Go.RowKit VC
set_option linter.unusedSimpArgs false
set_option linter.unusedVariables false

theorem or_and_expr {a left i : Nat} (ha : a < 4096) (hl : left < 4096) (hi : i < 12) : iAnd .i64 (a : Int) (iAndNot .i64 (left : Int) (iShl .i64 1 (i : Int))) = ((a &&& nSub left (2 ^ i) : Nat) : Int) := by
  rw [without hl hi, and_expr ha (Nat.lt_of_lt_of_le (nSub_lt (n := 12) hl) (by omega))]
theorem find_els {left i : Nat} {q : Nat → Bool} (hb : left.testBit i = true) (hi : i < 12) (hq : q i = true) (hno : ∀ j, j < i → left.testBit j = true → q j = false) : (els left).find? q = some i := by
  unfold els
  rw [List.find?_filter, List.find?_range_eq_some]
  refine ⟨by simp [hb, hq], by simpa using hi, fun j hj => ?_⟩
  cases hbj : left.testBit j with
  | false => simp
  | true => simp [hno j hj hbj]
theorem find_none {left : Nat} {q : Nat → Bool} (hno : ∀ j, j < 12 → left.testBit j = true → q j = false) : (els left).find? q = none := by
  rw [List.find?_eq_none]
  intro j hj
  obtain ⟨h1, h2⟩ := mem_els.1 hj
  simp [hno j h1 h2]
theorem checkOrder_no {w : World} {v u : Value} {G : List Int} (hs : SlI w v G) (hv : ¬ VG G) : Calls Tryd.prog 18 #[v, u] w (Ret w (.tuple #[.bool false, .int .i64 2])) := by
  refine f18_calls _ _ ?_
  refine (valid_c hs (b := false) (by simp [hv])).mono ?_
  rintro e w1 ⟨rfl, g1⟩
  exact ⟨false, rfl, rfl, g1⟩
theorem checkOrder_c {w : World} {v u : Value} {N : List Nat} {l : List Int} (hs : SlI w v (ofN N)) (hu : SlI w u l) (hN : VN N) (hT : Tab w) : Calls Tryd.prog 18 #[v, u] w (Ret w (.tuple #[.bool (permN N l && chkN N (al N) l), .int .i64 0])) := by
  refine f18_calls _ _ ?_
  have h12 := hN.le
  refine (valid_c hs (b := true) (by simp [VG_ofN.2 hN])).mono ?_
  rintro e w1 ⟨rfl, g1⟩
  refine ⟨true, rfl, ?_⟩
  refine (permutation_c (hs.grow g1) (hu.grow g1) hN).mono ?_
  rintro e w2 ⟨rfl, g2⟩
  refine ⟨_, rfl, condP_i (fun h => ?_) fun h => ?_⟩
  · have h : permN N l = false := by simpa using h
    rw [h]
    exact ⟨rfl, g1.trans g2⟩
  · have h : permN N l = true := by simpa using h
    rw [h]
    simp only [permN, Bool.and_eq_true, decide_eq_true_eq, beq_iff_eq] at h
    obtain ⟨⟨hr, hlen⟩, _⟩ := h
    refine (all_c (hs.grow (g1.trans g2)) (by simpa using h12)).mono ?_
    rintro e w3 ⟨rfl, g3⟩
    have g03 := (g1.trans g2).trans g3
    rw [show (2 ^ (ofN N).length - 1 : Nat) = al N by simp [al]]
    refine ⟨_, rfl, hu.ln ⟨fun s t w' => ∃ (k s' : Nat), t = k ∧ k ≤ l.length ∧ s = (s' : Int) ∧ s' < 2 ^ N.length ∧ Grow w w' ∧ chkN N (al N) l = chkN N s' (l.drop k), fun _ t _ => l.length - t.toNat, ⟨0, al N, rfl, by omega, rfl, al_lt N, g03, rfl⟩, ?_⟩⟩
    rintro - s t w4 ⟨k, s', rfl, hk, rfl, hs', hg, hchk⟩
    have hs4 : s' < 4096 := Nat.lt_of_lt_of_le hs' hN.pow
    refine condD (fun hlt => ?_) (fun hge => ?_)
    · have hkl : k < l.length := by omega
      have hx := List.all_eq_true.1 hr l[k] (List.getElem_mem hkl)
      simp only [Bool.and_eq_true, decide_eq_true_eq] at hx
      obtain ⟨x, hxx⟩ : ∃ x : Nat, l[k] = (x : Int) := ⟨l[k].toNat, by omega⟩
      have hxl : x < N.length := by omega
      rw [List.drop_eq_getElem_cons hkl] at hchk
      simp only [chkN, hxx, Int.toNat_natCast] at hchk
      refine (hu.grow hg).rd rfl hkl ?_
      rw [hxx]
      refine ⟨by omega, (hs.grow hg).rd rfl (by simpa using hxl) ?_⟩
      rw [ofN_get, nb_get, or_and_expr (hN.nb_lt' x) hs4 (by omega), without hs4 (by omega)]
      refine (clique_c (hs.grow hg) hN (and_lt (hN.nb_lt x)) (hT.grow hg)).mono ?_
      rintro e w5 ⟨rfl, g5⟩
      refine ⟨_, rfl, condP_i (fun h => ?_) fun h => ?_⟩
      · have h : cliq N (nb N x &&& nSub s' (2 ^ x)) = false := by simpa using h
        rw [hchk, h]
        exact ⟨rfl, hg.trans g5⟩
      · have h : cliq N (nb N x &&& nSub s' (2 ^ x)) = true := by simpa using h
        rw [h] at hchk
        exact ⟨by unfold inR; omega, ⟨k + 1, _, by omega, by omega, rfl, nSub_lt hs', hg.trans g5, by rw [hchk]; simp⟩, by dsimp only; omega⟩
    · have hkl : k = l.length := by omega
      subst hkl
      rw [List.drop_length] at hchk
      rw [hchk]
      exact ⟨rfl, hg⟩

/-! ## The reference -/
theorem shl_all {N : List Nat} (hN : N.length ≤ 12) : (iShl .i64 1 ((N.length : Nat) : Int)) - 1 = ((al N : Nat) : Int) := by
  have h1 := pow12 hN
  have h2 : 0 < 2 ^ N.length := Nat.pow_pos (by omega)
  rw [iShl_one (by omega)]; unfold al; omega
theorem refEliminates_c {w : World} {v u : Value} {N : List Nat} {l : List Int} (hs : SlI w v (ofN N)) (hu : SlI w u l) (hN : VN N) : Calls Tryd.prog 24 #[v, u] w (Ret w (.bool (elN N (al N) l))) := by
  refine f24_calls _ _ ?_
  have h12 := hN.le
  have hle := hu.len_le
  have ha := al_lt N
  have hp := hN.pow
  refine hs.ln ?_
  rw [ofN_len, shl_all h12]
  refine ⟨by omega, by unfold inR; omega, hu.ln ⟨fun s t w' => ∃ (k s' : Nat), t = k ∧ k ≤ l.length ∧ s = (s' : Int) ∧ s' < 2 ^ N.length ∧ Grow w w' ∧ elN N (al N) l = elN N s' (l.drop k), fun _ t _ => l.length - t.toNat, ⟨0, al N, rfl, by omega, rfl, ha, Grow.refl w, rfl⟩, ?_⟩⟩
  rintro - s t w1 ⟨k, s', rfl, hk, rfl, hs', hg, he⟩
  have hs4 : s' < 4096 := Nat.lt_of_lt_of_le hs' hN.pow
  refine condD (fun hlt => ?_) (fun hge => ?_)
  · have hkl : k < l.length := by omega
    rw [List.drop_eq_getElem_cons hkl] at he
    simp only [elN] at he
    have no : ∀ {w'}, Grow w w' → elN N (al N) l = false → Ret w (.bool (elN N (al N) l)) (.returned (.bool false)) w' := fun hg h => by rw [h]; exact ⟨rfl, hg⟩
    refine (hu.grow hg).rd rfl hkl (condD (fun h => no hg ?_) fun h0 => hs.ln (condD (fun h => no hg ?_) fun h1 => ?_))
    · have : decide (0 ≤ l[k]) = false := by simp; omega
      rw [he, this]; rfl
    · have : decide (l[k] < (N.length : Int)) = false := by rw [ofN_len] at h; simp; omega
      rw [he, this]; simp
    · rw [ofN_len] at h1
      obtain ⟨x, hxx⟩ : ∃ x : Nat, l[k] = (x : Int) := ⟨l[k].toNat, by omega⟩
      have hxl : x < N.length := by omega
      rw [hxx] at he h0 h1 ⊢
      simp only [Int.toNat_natCast] at he
      refine ⟨by omega, ?_⟩
      rw [iBit _ (by omega), ibit_nat]
      refine condD (fun h => no hg ?_) fun h => ⟨by omega, (hs.grow hg).rd rfl (by simpa using hxl) ?_⟩
      · have : s'.testBit x = false := by cases hb : s'.testBit x with | false => rfl | true => simp [hb] at h
        rw [he, this]; simp
      have hbit : s'.testBit x = true := by cases hb : s'.testBit x with | true => rfl | false => simp [hb] at h
      rw [ofN_get, nb_get, or_and_expr (hN.nb_lt' x) hs4 (by omega), without hs4 (by omega)]
      refine (isClique_c (hs.grow hg) hN (and_lt (hN.nb_lt x))).mono ?_
      rintro e w5 ⟨rfl, g5⟩
      refine ⟨_, rfl, condP_i (fun h => ?_) fun h => ?_⟩
      · have h : cliq N (nb N x &&& nSub s' (2 ^ x)) = false := by simpa using h
        refine no (hg.trans g5) ?_
        rw [he, h]; simp
      · have h : cliq N (nb N x &&& nSub s' (2 ^ x)) = true := by simpa using h
        have h0' : decide (0 ≤ (x : Int)) = true := by simp
        have h1' : decide ((x : Int) < (N.length : Int)) = true := by simp; omega
        rw [h, h0', h1', hbit] at he
        exact ⟨by unfold inR; omega, ⟨k + 1, _, by omega, by omega, rfl, nSub_lt hs', hg.trans g5, by rw [he]; simp⟩, by dsimp only; omega⟩
  · have hkl : k = l.length := by omega
    subst hkl
    rw [List.drop_length] at he
    rw [he]
    refine ⟨?_, hg⟩
    simp only [elN]
    congr 2
    rw [Bool.eq_iff_iff]; simp
/-- The reference's Order: the greedy order, found with plain loops. -/
theorem refOrder_c {w : World} {v : Value} {N : List Nat} (hs : SlI w v (ofN N)) (hN : VN N) : Calls Tryd.prog 22 #[v] w fun e w' => ∃ u, e = .returned (.tuple #[u, .int .i64 (if (ordG N).isSome then 0 else 7)]) ∧ OwnI w' w.heap.size u (ofN ((ordG N).getD [])) ∧ Grow w w' := by
  refine f22_calls _ ?_
  have h12 := hN.le
  have ha := al_lt N
  have hp := hN.pow
  refine hs.ln ?_
  rw [ofN_len, shl_all h12]
  refine ⟨by omega, by unfold inR; omega, hs.ln ?_⟩
  rw [ofN_len]
  refine ⟨fun out s t w' => ∃ (k left : Nat) (done : List Nat), t = k ∧ k ≤ N.length ∧ s = (left : Int) ∧ left < 2 ^ N.length ∧ pc left + done.length ≤ N.length ∧ ordG N = (ordN N (12 - done.length) left).map (done ++ ·) ∧ done.length ≤ k ∧
      (done.length = k ∨ (els left).find? (fun i => cliq N (nb N i &&& left)) = none) ∧ OwnI w' w.heap.size out (ofN done) ∧ Grow w w',
    fun _ _ t _ => N.length - t.toNat,
    ⟨0, al N, [], rfl, by omega, rfl, ha, by rw [pc_al hN]; simp, by simp [ordG], by simp, .inl rfl, Own.nil _ _ _ _, Grow.refl w⟩, ?_⟩
  rintro - out s t w1 ⟨k, left, done, rfl, hk, rfl, hl, hpc, hord, hdk, hst, ho, hg⟩
  have hl4 : left < 4096 := Nat.lt_of_lt_of_le hl hN.pow
  refine condD (fun hlt => hs.ln ?_) (fun hge => ?_)
  · rw [ofN_len]
    refine ⟨fun out' s' t' w' => ∃ m : Nat, out' = out ∧ s' = (left : Int) ∧ t' = m ∧ m ≤ N.length ∧ (∀ j, j < m → left.testBit j = true → cliq N (nb N j &&& left) = false) ∧ Grow w1 w', fun _ _ t' _ => N.length - t'.toNat, ⟨0, rfl, rfl, rfl, by omega, fun j h => by omega, Grow.refl w1⟩, ?_⟩
    rintro - out' s' t' w2 ⟨m, rfl, rfl, rfl, hm, hno, g2⟩
    refine condD (fun hlt2 => ⟨by omega, ?_⟩) (fun hge2 => ?_)
    · have hml : m < N.length := by omega
      rw [iBit _ (by omega), ibit_nat]
      have next : ∀ {w'}, Grow w1 w' → (left.testBit m = true → cliq N (nb N m &&& left) = false) → ∃ m' : Nat, out' = out' ∧ (left : Int) = (left : Int) ∧ (m : Int) + 1 = m' ∧ m' ≤ N.length ∧ (∀ j, j < m' → left.testBit j = true → cliq N (nb N j &&& left) = false) ∧ Grow w1 w' := fun hg' hc =>
        ⟨m + 1, rfl, rfl, by omega, by omega, fun j hj hb => by
          by_cases e : j = m
          · subst e; exact hc hb
          · exact hno j (by omega) hb, hg'⟩
      refine condD (fun hb => ?_) (fun hb => ?_)
      · have hbit : left.testBit m = true := by cases h : left.testBit m with | true => rfl | false => simp [h] at hb
        refine ((hs.grow hg).grow g2).rd rfl (by simpa using hml) ?_
        rw [ofN_get, nb_get, and_expr (hN.nb_lt' m) hl4]
        refine (isClique_c ((hs.grow hg).grow g2) hN (and_lt (hN.nb_lt m))).mono ?_
        rintro e w3 ⟨rfl, g3⟩
        refine ⟨_, rfl, condP_i (fun hc => ?_) (fun hc => ?_)⟩
        · -- found
          intro w4 hw4
          have g13 := g2.trans g3
          have hfind : (els left).find? (fun i => cliq N (nb N i &&& left)) = some m := find_els hbit (by omega) hc hno
          have hdk' : done.length = k := by
            rcases hst with h | h
            · exact h
            · rw [hfind] at h; cases h
          have hsz := ho.grow g13
          refine pappI hw4 (ho.grow g13) (by have := hg.size; have := g13.size; omega) (by simp; omega) ?_
          intro v' w5 ho' hf'
          rw [without hl4 (by omega)]
          refine ⟨by omega, by unfold inR; omega, ⟨k + 1, nSub left (2 ^ m), done ++ [m], by omega, by omega, rfl, nSub_lt hl, ?_, ?_, by simp; omega, .inl (by simp; omega), ?_, ?_⟩, by dsimp only; omega⟩
          · have := pc_sub hbit (show m < 12 by omega)
            simp; omega
          · have hnz : left ≠ 0 := fun e => by subst e; simp at hbit
            have hfuel : 12 - done.length = (11 - done.length) + 1 := by omega
            rw [hord, hfuel]
            conv => lhs; unfold ordN
            rw [if_neg hnz, hfind]
            simp only [Option.map_map]
            have : 12 - (done ++ [m]).length = 11 - done.length := by rw [List.length_append, List.length_singleton]; omega
            rw [this]
            congr 1
            funext r
            simp
          · rw [ofN_app]; exact ho'
          · exact own_grow (hg.trans g13) (ho.grow g13) (by omega) hw4 hf'
        · exact ⟨by unfold inR; omega, next (g2.trans g3) (fun _ => hc), by dsimp only; omega⟩
      · have hbit : left.testBit m = false := by cases h : left.testBit m with | true => simp [h] at hb | false => rfl
        exact ⟨by unfold inR; omega, next g2 (fun h => by rw [hbit] at h; cases h), by dsimp only; omega⟩
    · have hml : m = N.length := by omega
      subst hml
      have hfind : (els left).find? (fun i => cliq N (nb N i &&& left)) = none := find_none fun j _ hb => hno j (bit_lt hl hb) hb
      exact ⟨by unfold inR; omega, ⟨k + 1, left, done, by omega, by omega, rfl, hl, hpc, hord, by omega, .inr hfind, ho.grow g2, hg.trans g2⟩, by dsimp only; omega⟩
  · have hkl : k = N.length := by omega
    refine condP_i (fun h => ?_) (fun h => ?_)
    · have hnz : left ≠ 0 := by simpa using h
      have hpos : 0 < pc left := by
        rcases Nat.eq_zero_or_pos (pc left) with h | h
        · exact absurd ((pc_zero hl4).1 h) hnz
        · exact h
      have hfind : (els left).find? (fun i => cliq N (nb N i &&& left)) = none := by
        rcases hst with h | h
        · omega
        · exact h
      have hfuel : 12 - done.length = (11 - done.length) + 1 := by omega
      have : ordG N = none := by
        rw [hord, hfuel]
        unfold ordN
        rw [if_neg hnz, hfind]
        rfl
      rw [this]
      exact ⟨_, rfl, Own.nil _ _ _ _, hg⟩
    · have hz : left = 0 := by simpa using h
      subst hz
      have : ordG N = some done := by
        rw [hord]
        cases 12 - done.length <;> simp [ordN]
      rw [this]
      exact ⟨out, rfl, ho, hg⟩

/-! ## The helpers of the laws -/
theorem el_graph : ElT Tryd.prog 23 3 1 8 (.int .i64 0) := ⟨by kernel_rfl, ⟨Tryd.t3, by kernel_rfl, by kernel_rfl, by kernel_rfl, by kernel_rfl⟩, rfl⟩
theorem cloneG_c {w : World} {v : Value} {xs : List Int} (hs : SlI w v xs) (hlen : xs.length ≤ 1000000) : Calls Tryd.prog 63 #[v] w fun e w' => ∃ v', e = .returned v' ∧ OwnI w' w.heap.size v' xs ∧ Grow w w' := by
  refine f63_calls _ ?_
  obtain ⟨a, c, rfl, h1, h2, h3, h4⟩ := hs.ex
  refine ⟨a.isNone, nilEq (e := 3) (by kernel_rfl), condP_i (fun ha => ?_) (fun ha => ?_)⟩
  · have : a = none := by simpa using ha
    have hc := h3 this
    have : xs = [] := by have : xs.length = 0 := by omega
                         simpa using this
    subst this
    exact ⟨_, rfl, Own.nil _ _ _ _, Grow.refl w⟩
  · intro w1 hw1
    have hl := Own.lit (B := w.heap.size) (n := 0) (sz := 1) hw1 (Nat.le_refl _) (by omega) (by simp)
    refine papp el_graph (by omega) hl (hs.grow (alloc_grow hw1)) (by simp) (by simp [encI, Value.oneCell']) (by rw [alloc_size hw1]; omega) (by omega) (by omega) ?_
    intro v' w' ho hf hn
    refine ⟨v', rfl, by simpa using ho, (alloc_grow hw1).fr hf fun i hi e => ?_⟩
    simp [Value.ownBlock] at e
    omega
theorem of_c {w : World} {v : Value} {xs : List Int} (hs : SlI w v xs) : Calls Tryd.prog 17 #[v] w fun e w' => ∃ v', e = .returned v' ∧ OwnI w' w.heap.size v' (xs.take 14) ∧ Grow w w' := by
  refine f17_calls _ ?_
  have hz : (if (14 : Int) < (xs.length : Int) then 14 else (xs.length : Int)) = ((if 14 < xs.length then 14 else xs.length : Nat) : Int) := by split <;> split <;> omega
  obtain ⟨a, n, c, rfl, l, hh, m, hsb, hv'⟩ := hs.upto (k := .i64) hz (by split <;> omega) (K := fun v' => SlI w v' (xs.take (if 14 < xs.length then 14 else xs.length))) fun v' hv' => hv'
  refine hs.ln ⟨a, n, c, rfl, l, hh, m, hsb, ?_⟩
  have ht : xs.take (if 14 < xs.length then 14 else xs.length) = xs.take 14 := by
    split
    · rfl
    · rw [List.take_length, List.take_of_length_le (by omega)]
  rw [ht] at hv'
  refine (cloneG_c hv' (by simp; omega)).mono ?_
  rintro e w' ⟨v'', rfl, h⟩
  exact ⟨v'', rfl, v'', rfl, h⟩
theorem few_c {w : World} {v : Value} {xs : List Int} (hs : SlI w v xs) : Calls Tryd.prog 19 #[v] w fun e w' => ∃ v', e = .returned v' ∧ OwnI w' w.heap.size v' (xs.take 14) ∧ Grow w w' := by
  refine f19_calls _ ?_
  have hz : (if (14 : Int) < (xs.length : Int) then 14 else (xs.length : Int)) = ((if 14 < xs.length then 14 else xs.length : Nat) : Int) := by split <;> split <;> omega
  obtain ⟨a, n, c, rfl, l, hh, m, hsb, hv'⟩ := hs.upto (k := .i64) hz (by split <;> omega) (K := fun v' => SlI w v' (xs.take (if 14 < xs.length then 14 else xs.length))) fun v' hv' => hv'
  refine hs.ln ⟨a, n, c, rfl, l, hh, m, hsb, ?_⟩
  have ht : xs.take (if 14 < xs.length then 14 else xs.length) = xs.take 14 := by
    split
    · rfl
    · rw [List.take_length, List.take_of_length_le (by omega)]
  rw [ht] at hv'
  refine (clone_c hv' (by simp; omega)).mono ?_
  rintro e w' ⟨v'', rfl, h⟩
  exact ⟨v'', rfl, v'', rfl, h⟩
theorem VG_take {xs : List Int} (h : ¬ VG xs) : ¬ VG (xs.take 14) := fun hv => by
  have h1 := hv.2.1
  rw [List.length_take] at h1
  rw [List.take_of_length_le (by omega)] at hv
  exact h hv
theorem take_VN {N : List Nat} (hN : VN N) : (ofN N).take 14 = ofN N := List.take_of_length_le (by have := hN.le; simp; omega)
def N252 : List Nat := [2, 5, 2]
theorem vn252 : VN N252 := by
  refine ⟨by decide, by decide, ?_, ?_, ?_⟩
  · decide
  · decide
  · intro i j hi hj
    rw [nb_get hi, nb_get hj]
    have : ∀ i, i < 3 → ∀ j, j < 3 → (nb N252 i).testBit j = (nb N252 j).testBit i := by decide
    exact this i hi j hj
theorem ord252 : ordG N252 = some [0, 1, 2] := by decide +kernel
theorem awake_c {w : World} (hT : Tab w) : Calls Tryd.prog 21 #[] w (Ret w (.bool true)) := by
  refine f21_calls ?_
  intro w1 hw1
  have g1 := alloc_grow hw1
  have hs : SlI w1 (.slice (some ⟨w.heap.size, 0, none⟩) 3 3) (ofN N252) :=
    (Own.lit (B := w.heap.size) (n := 3) (sz := 1) hw1 (Nat.le_refl _) (by omega) (by simp)).slC
  refine (Order_c hs vn252 (hT.grow g1)).mono ?_
  rw [ord252]
  rintro e w2 ⟨u, rfl, hu, g2⟩
  refine ⟨u, _, rfl, condD (fun _ => ?_) fun h => absurd rfl h⟩
  intro w3 hw3
  have g3 := alloc_grow hw3
  have hy : SlI w3 (.slice (some ⟨w2.heap.size, 0, none⟩) 3 3) (ofN [0, 1, 2]) :=
    (Own.lit (B := w2.heap.size) (n := 3) (sz := 1) hw3 (Nat.le_refl _) (by omega) (by simp)).slC
  refine (equal_c (hu.slI.grow g3) hy).mono ?_
  rintro e w4 ⟨rfl, g4⟩
  exact ⟨_, rfl, by simp, ((g1.trans g2).trans g3).trans g4⟩
end Go.Proofs.YtmpjanpmkmlloaaDoor
