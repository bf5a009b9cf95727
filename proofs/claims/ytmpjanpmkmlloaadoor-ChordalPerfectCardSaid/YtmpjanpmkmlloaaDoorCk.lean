/- Contracts of the reference: holed, Hole. The table of bits is laid (Tab). -/
import Derived.Test.YtmpjanpmkmlloaaDoorCi
namespace Go.Proofs.YtmpjanpmkmlloaaDoor
open Go Go.RowKit VC
set_option linter.unusedSimpArgs false
set_option linter.unusedVariables false

theorem nilNe {P : Program} {t e : TypeId} (ht : P.underlying t = some (.slice e)) {ox : Operand} {c : Value} {a : Option Addr} {n m : Nat} : PBinR P .neq t ox (.const c) (.slice a n m) (.slice none 0 0) a.isSome := by
  intro w
  have hg : eqGuard .neq t ox (.const c) (.slice a n m) (.slice none 0 0) = pure () := by simp [eqGuard_at_slice]
  simp only [hg, Sem.run_bind, Sem.run_pure, Result.andThen_ok]
  simp only [binOp]
  simp [Op.equal, Op.maxDepth, Lib.run_equalIn_slice_nil w 9999 t e a n m 0 0 ht]
theorem some_of_SlI {w : World} {a : Option Addr} {n c : Nat} {xs : List Int} (h : SlI w (.slice a n c) xs) (hp : 0 < xs.length) : ∃ b, a = some b := by
  obtain ⟨a', c', he, _, _, _, h4⟩ := h.ex
  cases he
  obtain ⟨b, hb, _⟩ := h4 0 (encI xs[0]) (by simp [hp])
  exact ⟨b, hb⟩
/-- append of one int onto a full slice: a new array. -/
theorem pappF {t ty : TypeId} (hT : ElT Tryd.prog t 3 1 8 (.int .i64 0)) {w w1 : World} {a : Addr} {n : Nat} {x : Int} {xs : List Int} (hw : w1 = w.alloc (.cells #[.int .i64 x] 3)) (hv : SlI w (.slice (some a) n n) xs) (hn : n = xs.length) (hlen : xs.length ≤ 1000000) {K : Value → World → Prop}
    (hk : ∀ v' w', OwnI w' w.heap.size v' (xs ++ [x]) → Grow w w' → K v' w') : PApp Tryd.prog t ty (.slice (some a) n n) (.slice (some ⟨w.heap.size, 0, none⟩) 1 1) w1 K := by
  subst hn
  obtain ⟨i, hi, hz, hsize, hby⟩ := hT.info
  have hv1 := hv.grow (alloc_grow hw)
  obtain ⟨a', c', he, h1, h2, h3, h4⟩ := hv1.ex
  simp only [Value.slice.injEq, Option.some.injEq, true_and] at he
  obtain ⟨rfl, rfl⟩ := he
  have hn : ∀ j y, [Value.int .i64 x][j]? = some y → w1.cell? ((⟨w.heap.size, 0, none⟩ : Addr).add j) = some y := fun j y hj => by
    obtain ⟨hj1, hj2⟩ := List.getElem?_eq_some_iff.1 hj
    have hj0 : j = 0 := by simpa using hj1
    subst hj0
    simp at hj2
    subst hj2
    exact alloc_cell0 hw
  have holds : ∀ j y, (xs.map encI)[j]? = some y → w1.cell? (a.add j) = some y := fun j y hj => by
    obtain ⟨b, hb, hc⟩ := h4 j y hj
    cases hb
    exact hc
  have hm : xs.length + 1 ≤ maxLen := by simp only [maxLen]; omega
  have hr := run_append_grow (P := Tryd.prog) w1 t ty 3 i (.int .i64 0) hT.und hi hz a xs.length xs.length (xs.map encI) (by simp [hsize]) holds _ 1 1 [.int .i64 x] (by simp [hsize]) hn (by omega) (by omega) (growslice_fits (by omega) (by rw [hby]; omega))
  refine ⟨_, _, hr, hk _ _ ?_ ?_⟩
  · have hge := grownCap_ge w1 (xs.length + 1) xs.length 3
    have hcm := grownCap_le_maxLen w1 (xs.length + 1) xs.length 3 hm
    have e : (xs ++ [x]).length = xs.length + 1 := by simp
    have e2 : (xs ++ [x]).map encI = xs.map encI ++ [.int .i64 x] := by simp [encI]
    unfold OwnI
    rw [e, e2]
    refine ⟨by simp, .inr ⟨w1.heap.size, _, _, rfl, by rw [alloc_size hw]; omega, heap_alloc_new w1.drew _, hge, hcm, ?_, ?_⟩⟩
    · simp only [Array.size_append, List.size_toArray, size_zeroCells, hT.zs, List.length_map, List.length_singleton]
      omega
    · simp only [Array.toList_append, List.append_assoc]
      rw [← List.append_assoc]
      have hl : (xs.map encI ++ [Value.int .i64 x]).length = (xs.length + 1) * 1 := by simp
      rw [← hl]
      exact List.take_left
  · exact (alloc_grow hw).trans ((Below.drew (Grow.refl w1)).alloc (Nat.le_refl _) _)
theorem refHoled_c {N : List Nat} {long : Nat} (hN : VN N) (hlong : long ≤ 12) : ∀ (f : Nat) (xs : List Nat) (w : World) (v u : Value), SlI w v (ofN N) → SlI w u (ofN xs) → xs.length + f = long → 1 ≤ xs.length → (∀ x ∈ xs, x < N.length) →
    Calls Tryd.prog 78 #[v, u, .int .i64 (long : Int)] w fun e w' => ∃ t, e = .returned t ∧ Grow w w' ∧ (∀ r, dfs N long f xs = some r → SlI w' t (ofN r)) ∧ (dfs N long f xs = none → t = .slice none 0 0)
  | 0, xs, w, v, u, hs, hu, hlen, hl1, hxs => by
    refine f78_calls _ _ _ ?_
    refine hu.ln (condD (fun _ => ?_) (fun h => ?_))
    · refine (isHole_c hs hu hN holeB_iff).mono ?_
      rintro e w1 ⟨rfl, g1⟩
      refine ⟨_, rfl, condP_i (fun hb => ?_) (fun hb => ?_)⟩
      · refine ⟨u, rfl, g1, fun r hr => ?_, fun h => ?_⟩
        · unfold dfs at hr
          rw [hb] at hr
          simp at hr
          subst hr
          exact hu.grow g1
        · unfold dfs at h; rw [hb] at h; simp at h
      · refine ⟨_, rfl, g1, fun r hr => ?_, fun _ => rfl⟩
        unfold dfs at hr
        rw [hb] at hr
        simp at hr
    · simp at h; omega
  | f + 1, xs, w, v, u, hs, hu, hlen, hl1, hxs => by
    refine f78_calls _ _ _ ?_
    have h12 := hN.le
    refine hu.ln (condD (fun h => by simp at h; omega) (fun _ => hs.ln ?_))
    rw [ofN_len]
    have hz : (xs.length : Int) - 1 = ((xs.length - 1 : Nat) : Int) := by omega
    have hlast := gn_mem hxs (show xs.length - 1 < xs.length by omega)
    refine ⟨fun t w' => ∃ k : Nat, t = k ∧ k ≤ N.length ∧ Grow w w' ∧ ∀ j, j < k → dfsF N long f xs j = none, fun t _ => N.length - t.toNat, ⟨0, rfl, by omega, Grow.refl w, fun j h => by omega⟩, ?_⟩
    rintro - t w1 ⟨k, rfl, hk, g1, hno⟩
    refine condD (fun hlt => ?_) (fun hge => ?_)
    · have hkl : k < N.length := by omega
      have hu1 := hu.grow g1
      have hs1 := hs.grow g1
      refine ⟨fun ok w' => ok = ((nb N (gn xs (xs.length - 1))).testBit k && decide (gn xs 0 < k)) ∧ Grow w1 w', ?_, ?_⟩
      · refine hs1.rd rfl (by simpa using hkl) (hu1.ln ⟨by rw [ofN_len]; unfold inR; omega, hu1.rd (i := xs.length - 1) (by simpa using hz) (by simp; omega) ?_⟩)
        rw [ofN_get, ofN_get, nb_get (N := N) hkl, gn_get (l := xs) (by omega)]
        refine ⟨by omega, condD (fun hb => hu1.rd (i := 0) rfl (by simp; omega) ?_) (fun hb m => ?_)⟩
        · rw [ofN_get, gn_get]
          intro m
          rw [bit_ed (by omega), hN.sym'] at hb
          refine ⟨?_, (Grow.refl w1).dr m⟩
          rw [hb, Bool.true_and, Bool.eq_iff_iff]
          simp
        · rw [bit_ed (by omega), hN.sym'] at hb
          refine ⟨?_, (Grow.refl w1).dr m⟩
          cases h : (nb N (gn xs (xs.length - 1))).testBit k with
          | true => exact absurd h hb
          | false => rfl
      rintro - ok0 w2 ⟨rfl, g2⟩
      have hu2 := hu1.grow g2
      refine hu2.ln ⟨by rw [ofN_len]; unfold inR; omega, ?_⟩
      obtain ⟨a, n, c, e, lo, hh, m, hsb, hv'⟩ := hu2.upto (k := .i64) (z := ((ofN xs).length : Int) - 1) (i := xs.length - 1) (by simpa using hz) (by simp) (K := fun v' => SlI w2 v' ((ofN xs).take (xs.length - 1))) fun v' hv' => hv'
      refine ⟨a, n, c, e, lo, hh, m, hsb, hv'.ln ?_⟩
      have htl : ((ofN xs).take (xs.length - 1)).length = xs.length - 1 := by simp
      rw [htl]
      let cnd := fun j => decide (k ≠ gn xs j) && (!(nb N (gn xs j)).testBit k || (decide (j = 0) && decide (long ≤ xs.length + 1)))
      have hE : extB N long xs k = ((nb N (gn xs (xs.length - 1))).testBit k && decide (gn xs 0 < k) && (List.range (xs.length - 1)).all cnd) := rfl
      refine ⟨fun ok t w' => ∃ j : Nat, t = j ∧ j ≤ xs.length - 1 ∧ ok = ((nb N (gn xs (xs.length - 1))).testBit k && decide (gn xs 0 < k) && (List.range j).all cnd) ∧ Grow w2 w', fun _ t _ => xs.length - t.toNat, ⟨0, rfl, by omega, by simp, Grow.refl w2⟩, ?_⟩
      rintro - ok t w3 ⟨j, rfl, hj, rfl, g3⟩
      refine condD (fun hlt2 => ?_) (fun hge2 => ?_)
      · have hjl : j < xs.length - 1 := by omega
        refine (hv'.grow g3).rd rfl (by omega) ?_
        have egi : ((ofN xs).take (xs.length - 1))[j]'(by omega) = ((gn xs j : Nat) : Int) := by rw [List.getElem_take, ofN_get, gn_get (by omega)]
        rw [egi]
        have hgj := gn_mem hxs (show j < xs.length by omega)
        have nextF : cnd j = false → ∃ j' : Nat, (j : Int) + 1 = j' ∧ j' ≤ xs.length - 1 ∧ false = ((nb N (gn xs (xs.length - 1))).testBit k && decide (gn xs 0 < k) && (List.range j').all cnd) ∧ Grow w2 w3 := fun h =>
          ⟨j + 1, by omega, by omega, by rw [List.range_succ, List.all_append]; simp [h], g3⟩
        have nextT : cnd j = true → ∃ j' : Nat, (j : Int) + 1 = j' ∧ j' ≤ xs.length - 1 ∧ ((nb N (gn xs (xs.length - 1))).testBit k && decide (gn xs 0 < k) && (List.range j).all cnd) = ((nb N (gn xs (xs.length - 1))).testBit k && decide (gn xs 0 < k) && (List.range j').all cnd) ∧ Grow w2 w3 := fun h =>
          ⟨j + 1, by omega, by omega, by rw [List.range_succ, List.all_append]; simp [h], g3⟩
        refine condD (fun he => ⟨by unfold inR; omega, nextF ?_, by dsimp only; omega⟩) (fun he => ?_)
        · have : k = gn xs j := by omega
          simp [cnd, this]
        have hne : k ≠ gn xs j := by omega
        refine ((hs1.grow g2).grow g3).rd rfl (by simpa using hkl) ?_
        rw [ofN_get, nb_get]
        refine ⟨by omega, condD (fun hb => ?_) (fun hb => ?_)⟩
        · rw [bit_ed (by omega), hN.sym'] at hb
          refine condD (fun h0 => ⟨by unfold inR; omega, nextF ?_, by dsimp only; omega⟩) (fun h0 => (hu2.grow g3).ln ⟨by unfold inR; omega, condD (fun h1 => ⟨by unfold inR; omega, nextF ?_, by dsimp only; omega⟩) fun h1 => ⟨by unfold inR; omega, nextT ?_, by dsimp only; omega⟩⟩)
          · have : ¬ j = 0 := by omega
            simp [cnd, hb, this]
          · have : ¬ long ≤ xs.length + 1 := by rw [ofN_len] at h1; omega
            simp [cnd, hb, this]
          · have h2 : long ≤ xs.length + 1 := by rw [ofN_len] at h1; omega
            have h3 : j = 0 := by omega
            simp only [cnd, h2, h3, decide_true, Bool.and_true, Bool.or_true, decide_eq_true_eq]
            rw [← h3]; exact hne
        · rw [bit_ed (by omega), hN.sym'] at hb
          refine ⟨by unfold inR; omega, nextT ?_, by dsimp only; omega⟩
          simp [cnd, hne, hb]
      · have hjl : j = xs.length - 1 := by omega
        subst hjl
        rw [← hE]
        have g03 := (g1.trans g2).trans g3
        have next : ∀ {w'}, Grow w w' → dfsF N long f xs k = none → ∃ k' : Nat, (k : Int) + 1 = k' ∧ k' ≤ N.length ∧ Grow w w' ∧ ∀ j, j < k' → dfsF N long f xs j = none := fun hg hd =>
          ⟨k + 1, by omega, by omega, hg, fun j hj => by
            by_cases e : j = k
            · subst e; exact hd
            · exact hno j (by omega)⟩
        refine condP_i (fun hext => ?_) (fun hext => ?_)
        · have hu3 := hu2.grow g3
          have hdF : dfsF N long f xs k = dfs N long f (xs ++ [k]) := by unfold dfsF; rw [if_pos hext]
          obtain ⟨a, c, rfl, h1, h2, h3, h4⟩ := hu3.ex
          refine ⟨a, _, c, rfl, a, _, c, rfl, a, _, c, rfl, 0, xs.length, xs.length, ⟨rfl, ?_, ?_, by simp, by omega, by omega, by simpa using h1⟩, ?_⟩
          · simp [sbOk]
          · simp [sbOk]
          have ha : ∃ b, a = some b := some_of_SlI hu3 (by simp; omega)
          obtain ⟨b, rfl⟩ := ha
          have hb0 : b.add 0 = b := by unfold Addr.add; simp
          have hval : (Value.slice (if xs.length = 0 then some b else Option.map (fun x => x.add (0 * 1)) (some b)) (xs.length - 0) (xs.length - 0)) = .slice (some b) xs.length xs.length := by
            simp [hb0]
          rw [hval]
          intro w4 hw4
          have hfull : SlI w3 (.slice (some b) xs.length xs.length) (ofN xs) := by
            have e : (ofN xs).length = xs.length := by simp
            refine ⟨some b, xs.length, by rw [e], by simp, by omega, fun h => by (cases h), fun j y hj => h4 j y hj⟩
          refine pappF el_int hw4 hfull (by simp) (by simp; omega) ?_
          intro v' w5 ho5 g5
          have g05 := g03.trans g5
          have hnew : SlI w5 v' (ofN (xs ++ [k])) := by rw [ofN_app]; exact ho5.slI
          refine (refHoled_c hN hlong f (xs ++ [k]) w5 v v' (hs.grow g05) hnew (by simp; omega) (by simp) (fun y hy => by
            rcases List.mem_append.1 hy with h | h
            · exact hxs y h
            · have : y = k := by simpa using h
              omega)).mono ?_
          rintro e6 w6 ⟨t6, rfl, g6, hsome, hnone⟩
          have g06 := g05.trans g6
          refine ⟨t6, rfl, ?_⟩
          cases hd : dfs N long f (xs ++ [k]) with
          | none =>
            have := hnone hd
            subst this
            refine ⟨false, nilNe (e := 3) (by kernel_rfl), ?_⟩
            exact ⟨by unfold inR; omega, next g06 (by rw [hdF, hd]), by dsimp only; omega⟩
          | some r =>
            have hr := hsome r hd
            obtain ⟨a, c, rfl, h1, h2, h3, h4⟩ := hr.ex
            have hrl : 1 ≤ r.length := by
              have := (dfs_sound hd).2
              simp at this; omega
            have ha : a.isSome = true := by
              obtain ⟨b, hb⟩ := some_of_SlI hr (by simp; omega)
              rw [hb]; rfl
            refine ⟨a.isSome, nilNe (e := 3) (by kernel_rfl), ?_⟩
            rw [ha]
            have hD : dfs N long (f + 1) xs = some r := by
              rw [dfs_succ]
              refine findSome_idx (k := k) (by simp; omega) (fun j hj hjk => ?_) ?_
              · rw [List.getElem_range]; exact hno j hjk
              · rw [List.getElem_range, hdF, hd]
            exact ⟨_, rfl, g06, fun r' hr' => by rw [hD] at hr'; cases hr'; exact hr, fun h => by rw [hD] at h; cases h⟩
        · exact ⟨by unfold inR; omega, next g03 (by unfold dfsF; rw [hext]; rfl), by dsimp only; omega⟩
    · have hkN : k = N.length := by omega
      subst hkN
      have hD : dfs N long (f + 1) xs = none := by
        rw [dfs_succ, List.findSome?_eq_none_iff]
        intro x hx
        by_cases hxl : x < N.length
        · exact hno x hxl
        · unfold dfsF
          have : (nb N (gn xs (xs.length - 1))).testBit x = false := by
            cases h : (nb N (gn xs (xs.length - 1))).testBit x with
            | false => rfl
            | true => exact absurd (bit_lt (hN.nb_lt _) h) hxl
          unfold extB
          rw [this]; rfl
      exact ⟨.slice none 0 0, rfl, g1, fun (r : List Nat) (hr : dfs N long (f + 1) xs = some r) => by (rw [hD] at hr; cases hr), fun _ => rfl⟩
/-- The reference's Hole. -/
theorem refHole_c {w : World} {v : Value} {N : List Nat} (hs : SlI w v (ofN N)) (hN : VN N) :
    Calls Tryd.prog 29 #[v] w fun e w' => ∃ u, e = .returned (.tuple #[u, .int .i64 (if (firstH N).isSome then 0 else 5)]) ∧ SlI w' u (ofN ((firstH N).getD [])) ∧ Grow w w' := by
  refine f29_calls _ ?_
  have h12 := hN.le
  refine ⟨fun long w' => ∃ k : Nat, long = k ∧ 4 ≤ k ∧ k ≤ 13 ∧ Grow w w' ∧ ∀ j, 4 ≤ j → j < k → holeS N j = none, fun long _ => 14 - long.toNat, ⟨4, rfl, by omega, by omega, Grow.refl w, fun j h1 h2 => by omega⟩, ?_⟩
  rintro - long w1 ⟨long, rfl, h4, h13, g1, hno⟩
  refine (hs.grow g1).ln (condD (fun hle => (hs.grow g1).ln ?_) (fun hgt => ?_))
  · rw [ofN_len] at hle ⊢
    have hle : long ≤ N.length := by omega
    refine ⟨fun t w' => ∃ k : Nat, t = k ∧ k ≤ N.length ∧ Grow w w' ∧ ∀ j, j < k → dfs N long (long - 1) [j] = none, fun t _ => N.length - t.toNat, ⟨0, rfl, by omega, g1, fun j h => by omega⟩, ?_⟩
    rintro - t w2 ⟨k, rfl, hk, g2, hno2⟩
    refine condD (fun hlt => ?_) (fun hge => ?_)
    · have hkl : k < N.length := by omega
      intro w3 hw3
      have g3 := alloc_grow hw3
      have g03 := g2.trans g3
      have ho3 : OwnI w3 w2.heap.size (.slice (some ⟨w2.heap.size, 0, none⟩) 1 1) (ofN [k]) := Own.lit (n := 1) (sz := 1) hw3 (Nat.le_refl _) (by omega) (by simp)
      refine (refHoled_c hN (by omega) (long - 1) [k] w3 v _ (hs.grow g03) ho3.slI (show 1 + (long - 1) = long by omega) (by simp) (by simpa using hkl)).mono ?_
      rintro e w4 ⟨t4, rfl, g4, hsome, hnone⟩
      have g04 := g03.trans g4
      refine ⟨t4, rfl, ?_⟩
      cases hd : dfs N long (long - 1) [k] with
      | none =>
        have := hnone hd
        subst this
        refine ⟨false, nilNe (e := 3) (by kernel_rfl), ?_⟩
        refine ⟨by unfold inR; omega, ⟨k + 1, by omega, by omega, g04, fun j hj => ?_⟩, by dsimp only; omega⟩
        by_cases e : j = k
        · subst e; exact hd
        · exact hno2 j (by omega)
      | some r =>
        have hr := hsome r hd
        obtain ⟨a, c, rfl, h1, h2, h3, h4'⟩ := hr.ex
        have hrl : 1 ≤ r.length := by
          have := (dfs_sound hd).2
          simp at this; omega
        have ha : a.isSome = true := by
          obtain ⟨b, hb⟩ := some_of_SlI hr (by simp; omega)
          rw [hb]; rfl
        have hS : holeS N long = some r := by
          unfold holeS
          refine findSome_idx (k := k) (by simpa using hkl) (fun j hj hjk => ?_) ?_
          · rw [List.getElem_range]; exact hno2 j hjk
          · rw [List.getElem_range]; exact hd
        have hF : firstH N = some r := by
          unfold firstH
          refine findSome_idx (k := long) (by simp; omega) (fun j hj hjk => ?_) ?_
          · rw [List.getElem_range]
            split
            · exact hno j (by omega) hjk
            · rfl
          · rw [List.getElem_range, if_pos h4, hS]
        rw [hF]
        refine ⟨a.isSome, nilNe (e := 3) (by kernel_rfl), ?_⟩
        rw [ha]
        exact ⟨_, rfl, hr, g04⟩
    · have hkN : k = N.length := by omega
      subst hkN
      have hS : holeS N long = none := by
        unfold holeS
        rw [List.findSome?_eq_none_iff]
        intro x hx
        exact hno2 x (by simpa using hx)
      refine ⟨by unfold inR; omega, ⟨long + 1, by omega, by omega, by omega, g2, fun j h1 h2 => ?_⟩, by dsimp only; omega⟩
      by_cases e : j = long
      · subst e; exact hS
      · exact hno j h1 (by omega)
  · rw [ofN_len] at hgt
    have hF : firstH N = none := by
      unfold firstH
      rw [List.findSome?_eq_none_iff]
      intro j hj
      have hj' : j < N.length + 1 := by simpa using hj
      split
      · exact hno j (by omega) (by omega)
      · rfl
    rw [hF]
    exact ⟨_, rfl, SlI.nil _, g1⟩
end Go.Proofs.YtmpjanpmkmlloaaDoor
