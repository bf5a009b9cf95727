/- Contract: the graph of the variables of a query, by the reference. No condition. -/
import Derived.Test.YtleiddajojgmmaaDoorUg
namespace Go.Proofs.YtleiddajojgmmaaDoor
open Go Go.RowKit VC
set_option linter.unusedSimpArgs false
set_option linter.unusedVariables false

theorem and_bit {a k : Nat} (hk : k < 63) : (iAnd .i64 (iShr .i64 ((a : Nat) : Int) (k : Int)) 1) = if a.testBit k then 1 else 0 := by
  rw [iBit _ (by omega), ibit_nat]
theorem Q2_zero (b : List Atm) (k : Nat) (xs : List Int) {a c : Int} (h : 0 ≤ a) : Q2 b k xs 0 a c ↔ Rk b k a c := by
  unfold Q2
  constructor
  · rintro (h1 | ⟨-, -, h2⟩)
    · exact h1
    · omega
  · exact .inl
theorem Q2_full {b : List Atm} {k : Nat} (hk : k < b.length) {a c : Int} (h : a < 8) : Q2 b k b[k].2 8 a c ↔ Rk b (k + 1) a c := by
  rw [Rk_succ hk]
  unfold Q2
  exact or_congr_right ⟨fun h1 => ⟨h1.1, h1.2.1⟩, fun h1 => ⟨h1.1, h1.2, by omega⟩⟩
theorem Q3_zero (b : List Atm) (k : Nat) (xs : List Int) (v : Nat) {a c : Int} (h : 0 ≤ c) : Q3 b k xs v 0 a c ↔ Q2 b k xs v a c := by
  unfold Q3
  constructor
  · rintro (h1 | ⟨-, -, -, h2⟩)
    · exact h1
    · omega
  · exact .inl
theorem Q3_full (b : List Atm) (k : Nat) (xs : List Int) (v : Nat) {a c : Int} (h : c < 8) : Q3 b k xs v 8 a c ↔ Q2 b k xs (v + 1) a c := by
  unfold Q3 Q2
  constructor
  · rintro ((h1 | ⟨h1, h2, h3⟩) | ⟨h1, h2, h3, h4⟩)
    · exact .inl h1
    · exact .inr ⟨h1, h2, by omega⟩
    · exact .inr ⟨h2, h3, by omega⟩
  · rintro (h1 | ⟨h1, h2, h3⟩)
    · exact .inl (.inl h1)
    · by_cases e : a = v
      · exact .inr ⟨e, h1, h2, by omega⟩
      · exact .inl (.inr ⟨h1, h2, by omega⟩)
theorem Q3_skip (b : List Atm) (k : Nat) (xs : List Int) (v u : Nat) {a c : Int} (hn : v = u ∨ (v : Int) ∉ xs ∨ (u : Int) ∉ xs) (hac : a ≠ c) : Q3 b k xs v (u + 1) a c ↔ Q3 b k xs v u a c := by
  unfold Q3
  refine or_congr_right ⟨?_, fun ⟨h1, h2, h3, h4⟩ => ⟨h1, h2, h3, by omega⟩⟩
  rintro ⟨h1, h2, h3, h4⟩
  refine ⟨h1, h2, h3, ?_⟩
  by_cases e : c = u
  · subst h1 e
    rcases hn with hn | hn | hn
    · omega
    · exact absurd h2 hn
    · exact absurd h3 hn
  · omega
theorem Q3_step (b : List Atm) (k : Nat) (xs : List Int) (v u : Nat) (hv : (v : Int) ∈ xs) (hu : (u : Int) ∈ xs) (a c : Int) : Q3 b k xs v (u + 1) a c ↔ Q3 b k xs v u a c ∨ (a = v ∧ c = u) := by
  unfold Q3
  constructor
  · rintro (h1 | ⟨h1, h2, h3, h4⟩)
    · exact .inl (.inl h1)
    · by_cases e : c = u
      · exact .inr ⟨h1, e⟩
      · exact .inl (.inr ⟨h1, h2, h3, by omega⟩)
  · rintro ((h1 | ⟨h1, h2, h3, h4⟩) | ⟨h1, h2⟩)
    · exact .inl h1
    · exact .inr ⟨h1, h2, h3, by omega⟩
    · subst h1 h2
      exact .inr ⟨rfl, hv, hu, by omega⟩
theorem GI.ne {vs : List Int} {R R' : Int → Int → Prop} {G : List Nat} (h0 : ∀ x ∈ vs, 0 ≤ x ∧ x < 8) (h : GI vs R G) (hr : ∀ a c, 0 ≤ a → a < 8 → 0 ≤ c → c < 8 → a ≠ c → (R a c ↔ R' a c)) : GI vs R' G := ⟨h.len, fun i hi j => (h.bit i hi j).trans (exists_congr fun hj => and_congr_right fun hne => by
  have h1 := h0 _ (List.getElem_mem hi)
  have h2 := h0 _ (List.getElem_mem hj)
  exact hr _ _ h1.1 h1.2 h2.1 h2.2 hne)⟩
/-- The array at, when the first k places are set. -/
def atL (b : List Atm) (k : Nat) : List Int := (List.range 8).map fun i => if i < k then (cntV b i : Int) else 0
theorem atL_len (b : List Atm) (k : Nat) : (atL b k).length = 8 := by simp [atL]
theorem atL_get {b : List Atm} {k i : Nat} (hi : i < 8) : (atL b k).getD i 0 = if i < k then (cntV b i : Int) else 0 := by simp [atL, List.getD, hi]
theorem atL_set {b : List Atm} {k : Nat} (hk : k < 8) : (atL b k).set k (cntV b k : Int) = atL b (k + 1) := by
  refine List.ext_getElem (by simp [atL]) fun i h1 h2 => ?_
  rw [List.getElem_set]
  simp only [atL, List.getElem_map, List.getElem_range]
  split
  · rename_i e
    subst e
    rw [if_pos (by omega)]
  · rename_i e
    by_cases h : i < k
    · rw [if_pos h, if_pos (by omega)]
    · rw [if_neg h, if_neg (by omega)]
theorem refFromQ_c {w : World} {hv bv : Value} {h : List Int} {b : List Atm} (sh : SlI w hv h) (sb : SlA w bv b) :
    Calls Tryd.prog 7 #[.agg #[hv, bv]] w fun e w' => ((okQ h b = true ∧ vsI b ≠ [] ∧ ∃ v G, e = .returned (.tuple #[v, .int .i64 0]) ∧ SlI w' v (ofN G) ∧ GI (vsI b) (Rk b b.length) G) ∨ ((okQ h b = false ∨ vsI b = []) ∧ e = .returned (.tuple #[.slice none 0 0, .int .i64 2]))) ∧ Grow w w' := by
  refine f7_calls _ ⟨_, rfl, fun w1 hw1 => ?_⟩
  have g1 := alloc_grow hw1
  have hQ := RecV.new hw1
  refine ⟨[_, _], rfl, hQ.all, (refValid_c (sh.grow g1) (sb.gr g1)).mono ?_⟩
  rintro e w4 ⟨rfl, g4⟩
  have g04 := g1.trans g4
  refine ⟨_, rfl, condP_i (fun hn => ⟨.inr ⟨.inl (by simpa using hn), rfl⟩, g04⟩) fun hok => ?_⟩
  have ok : okQ h b = true := by simpa using hok
  have hbl := okQ_len ok
  have hA : ∀ a ∈ b, okA a = true := fun a ha => by
    have h1 := ok
    simp only [okQ, Bool.and_eq_true, List.all_eq_true] at h1
    exact h1.1.2 a ha
  have h79 : ∀ a ∈ b, ∀ x ∈ a.2, -9 ≤ x ∧ x ≤ 7 := fun a ha => (okA_iff.1 (hA a ha)).2.2.2.2
  have hQ4 := hQ.grow g4
  refine ⟨[_, _], rfl, hQ4.all, (refAll_c (sb.gr g04) hA).mono ?_⟩
  rintro e w8 ⟨rfl, g8⟩
  have g08 := g04.trans g8
  have vz : decide (((varsB b : Nat) : Int) = 0) = true → vsI b = [] := fun hz => (vs_nil hA).1 (by
    have : ((varsB b : Nat) : Int) = 0 := of_decide_eq_true hz
    omega)
  refine ⟨_, rfl, condP_i (fun hz => ⟨.inr ⟨.inr (vz hz), rfl⟩, g08⟩) fun hnz => fun w11 hw11 => ?_⟩
  have hnz : vsI b ≠ [] := fun e => by
    rw [(vs_nil hA).2 e] at hnz
    simp at hnz
  have g11 := alloc_grow hw11
  have z11 := alloc_size hw11
  obtain ⟨C, eC⟩ : ∃ C, C = w8.heap.size := ⟨_, rfl⟩
  have hC11 : RecV w11 C (encV (atL b 0)) := by
    rw [eC]
    exact RecV.new hw11
  rw [← eC]
  have g011 := g08.trans g11
  have hQ11 := (hQ4.grow g8).grow g11
  have hvb := varsB_lt hA
  refine ⟨fun nn t w' => ∃ k : Nat, t = k ∧ k ≤ 8 ∧ nn = (cntV b k : Nat) ∧ RecV w' C (encV (atL b k)) ∧ Fr (fun i => i = C) w11 w', fun _ t _ => 8 - t.toNat, ⟨0, rfl, by omega, rfl, hC11, Fr.refl _ _⟩, ?_⟩
  rintro - nn t w17 ⟨k, rfl, hk, rfl, hC17, f17⟩
  have lfC : ∀ {E : World}, Fr (fun i => i = C) w11 E → Grow w8 E := fun hf => g11.fr hf fun i hi e => by omega
  refine condD (fun hlt => ?_) fun hge => ?_
  · have hk8 : k < 8 := by omega
    refine ⟨⟨by omega, by omega⟩, ⟨_, cells8 hC17 (by omega)⟩, by rw [Nat.mul_one]; exact hC17.free _, fun w18 hw18 => ?_⟩
    have hw18' : w18 = w17.setCell (Addr.add ⟨C, 0, none⟩ k) (VC.encI (cntV b k : Int)) := by rw [hw18, Int.toNat_natCast, Nat.mul_one, VC.encI]
    have f18 := f17.trans (RecV.set_fr hw18')
    have hC18 : RecV w18 C (encV (atL b (k + 1))) := by
      rw [← atL_set hk8, ← encV_set (atL_len b k) hk8]
      exact hC17.set hw18'
    have g818 := lfC f18
    refine ⟨[_, _], rfl, (hQ4.grow (g8.trans g818)).all, (refAll_c (sb.gr (g08.trans g818)) hA).mono ?_⟩
    rintro e w20 ⟨rfl, g20⟩
    have hs := cntV_succ b k
    have hle := cntV_le b (k + 1)
    have eN : ((cntV b k : Nat) : Int) + (iAnd .i64 (iShr .i64 ((varsB b : Nat) : Int) (k : Int)) 1) = ((cntV b (k + 1) : Nat) : Int) := by
      rw [and_bit (by omega), hs]
      split <;> simp
    refine ⟨_, rfl, by omega, ?_, ?_, ⟨k + 1, by omega, by omega, eN, hC18.grow g20, f18.trans (Fr.of_grow g20)⟩, by first | omega | (dsimp only; omega)⟩
    · rw [eN]; unfold inR; omega
    · unfold inR; omega
  have hk8 : k = 8 := by omega
  subst hk8
  have g817 := lfC f17
  have g017 := g08.trans g817
  obtain ⟨vs, evs⟩ : ∃ vs, vs = vsI b := ⟨_, rfl⟩
  have hsrt : vs.Pairwise (· < ·) := evs ▸ vsI_lt b
  have hv8 : ∀ x ∈ vs, 0 ≤ x ∧ x < 8 := fun x hx => by
    obtain ⟨h0, h1⟩ := (mem_vsI hA).1 (evs ▸ hx)
    obtain ⟨a, ha, hxa⟩ := List.mem_flatMap.1 h1
    have := h79 a ha x hxa
    omega
  obtain ⟨n, en⟩ : ∃ n, n = vs.length := ⟨_, rfl⟩
  have en8 : cntV b 8 = n := by
    rw [en, evs, vsI_len]
    rfl
  have hn8 : n ≤ 8 := by have := cntV_le b 8; omega
  rw [en8]
  refine ⟨⟨by omega, by omega, by omega, by omega⟩, fun w23 hw23 => ?_⟩
  rw [Int.toNat_natCast] at hw23 ⊢
  have g23 := alloc_grow hw23
  have z23 := alloc_size hw23
  obtain ⟨A, eA⟩ : ∃ A, A = w17.heap.size := ⟨_, rfl⟩
  have hG23 : OwnG w23 A (.slice (some ⟨A, 0, none⟩) n n) (List.replicate n 0) := by
    have := Own.made hw23 (n := n) (by omega) (Nat.le_refl _) (by omega)
    have e : (ofN (List.replicate n 0)).map VC.encI = List.replicate n (Value.int .i64 0) := by simp [ofN, VC.encI]
    have e2 : (ofN (List.replicate n 0)).length = n := by simp
    unfold OwnG OwnI
    rw [e, e2, eA]
    exact this
  rw [← eA]
  have g823 := g817.trans g23
  have g023 := g08.trans g823
  have zC : C < w17.heap.size := hC17.lt
  have hC23 := hC17.grow g23
  have hGI0 : GI vs (Rk b 0) (List.replicate n 0) := by
    rw [en]
    exact (GI.nil vs).congr fun a c => (Rk_zero b a c).symm
  have lft : ∀ {E : World}, Fr (fun i => i = A) w23 E → Grow w17 E := fun hf => g23.fr hf fun i hi e => by omega
  refine ⟨_, (hQ4.grow (g8.trans g823)).cell (j := 1) rfl, SlX.ln (sb.gr g023) ⟨fun t w' => ∃ (k : Nat) (G : List Nat), t = k ∧ k ≤ b.length ∧ OwnG w' A (.slice (some ⟨A, 0, none⟩) n n) G ∧ GI vs (Rk b k) G ∧ Fr (fun i => i = A) w23 w', fun t _ => b.length - t.toNat, ⟨0, _, rfl, by omega, hG23, hGI0, Fr.refl _ _⟩, ?_⟩⟩
  rintro - t w32 ⟨k, G, rfl, hk, hG, hI, f32⟩
  have g1732 := lft f32
  have g032 := g017.trans g1732
  refine condD (fun hlt => ?_) fun hge => ?_
  · have hkl : k < b.length := by omega
    refine locU (sb.gr g017) g1732 rfl hkl rfl fun w38 u g38 s38 hu c0 c1 => ?_
    obtain ⟨xs, exs⟩ : ∃ xs, xs = b[k].2 := ⟨_, rfl⟩
    obtain ⟨r, er⟩ : ∃ r, r = b[k].1 := ⟨_, rfl⟩
    rw [← exs] at hu
    rw [← er] at c0
    have hx79 : ∀ x ∈ xs, -9 ≤ x ∧ x ≤ 7 := exs ▸ h79 _ (List.getElem_mem hkl)
    have hbit : ∀ {v : Nat}, (v : Int) ∈ xs → (varsB b).testBit v = true := fun {v} hv => varsB_bit.2 (List.mem_flatMap.2 ⟨_, List.getElem_mem hkl, exs ▸ hv⟩)
    have lf2 : ∀ {E : World}, Fr (fun i => i = A) w38 E → Grow w17 E := fun hf => lft ((f32.trans (Fr.of_grow g38)).trans hf)
    have z32 := f32.size
    have cE : ∀ {E : World}, Fr (fun i => i = A) w38 E → ∀ (j : Nat) (y : Value), [.int .i64 r, u][j]? = some y → E.cell? (Addr.add ⟨w32.heap.size, 0, none⟩ j) = some y := fun hf j y hj => by
      have hb : ¬ (Addr.add ⟨w32.heap.size, 0, none⟩ j).block = A := by rw [add_block]; show ¬ w32.heap.size = A; omega
      match j, hj with
      | 0, hj => cases hj; exact hf.cell c0 hb
      | 1, hj => cases hj; exact hf.cell c1 hb
    refine ⟨fun t w' => ∃ (v : Nat) (G : List Nat), t = v ∧ v ≤ 8 ∧ OwnG w' A (.slice (some ⟨A, 0, none⟩) n n) G ∧ GI vs (Q2 b k xs v) G ∧ Fr (fun i => i = A) w38 w', fun t _ => 8 - t.toNat, ⟨0, G, rfl, by omega, Own.grow hG g38, hI.nat hv8 fun a c h0 _ _ _ => (Q2_zero b k xs h0).symm, Fr.refl _ _⟩, ?_⟩
    rintro - t w44 ⟨v, G2, rfl, hv, hG2, hI2, f44⟩
    refine condD (fun hlt2 => ?_) fun hge2 => ?_
    · have hv8' : v < 8 := by omega
      refine ⟨fun t w' => ∃ (u' : Nat) (G : List Nat), t = u' ∧ u' ≤ 8 ∧ OwnG w' A (.slice (some ⟨A, 0, none⟩) n n) G ∧ GI vs (Q3 b k xs v u') G ∧ Fr (fun i => i = A) w38 w', fun t _ => 8 - t.toNat, ⟨0, G2, rfl, by omega, hG2, hI2.nat hv8 fun a c _ _ h0 _ => (Q3_zero b k xs v h0).symm, f44⟩, ?_⟩
      rintro - t w49 ⟨q, G3, rfl, hq, hG3, hI3, f49⟩
      refine condD (fun hlt3 => ?_) fun hge3 => ?_
      · have hq8 : q < 8 := by omega
        have skip : ∀ {E : World}, Grow w49 E → (v = q ∨ (v : Int) ∉ xs ∨ (q : Int) ∉ xs) → inR ((q : Int) + 1) ∧ ((∃ (q' : Nat) (G : List Nat), (q : Int) + 1 = q' ∧ q' ≤ 8 ∧ OwnG E A (.slice (some ⟨A, 0, none⟩) n n) G ∧ GI vs (Q3 b k xs v q') G ∧ Fr (fun i => i = A) w38 E) ∧ 8 - Int.toNat ((q : Int) + 1) < 8 - Int.toNat (q : Int)) := fun {E} gE hn =>
          ⟨by unfold inR; omega, ⟨q + 1, G3, by omega, by omega, Own.grow hG3 gE, hI3.ne hv8 fun a c _ _ _ _ hac => (Q3_skip b k xs v q hn hac).symm, f49.trans (Fr.of_grow gE)⟩, by omega⟩
        refine condP_i (fun hne => ?_) fun he => skip (Grow.refl _) (.inl ?_)
        · have hne : ¬ v = q := by
            have : ¬ (v : Int) = (q : Int) := by simpa using hne
            omega
          refine ⟨[_, _], rfl, cE f49, (refVars_c (hu.grow (lf2 f49)) hx79).mono ?_⟩
          rintro e w51 ⟨rfl, g51⟩
          refine ⟨_, rfl, by omega, ?_⟩
          rw [and_bit (by omega)]
          refine condP_i (fun h1 => ?_) fun h1 => skip g51 (.inr (.inl ?_))
          · have hvx : (v : Int) ∈ xs := by
              refine varsL_bit.1 (Classical.byContradiction fun hc => ?_)
              rw [if_neg hc] at h1
              simp at h1
            have f51 := f49.trans (Fr.of_grow g51)
            refine ⟨[_, _], rfl, cE f51, (refVars_c (hu.grow (lf2 f51)) hx79).mono ?_⟩
            rintro e w55 ⟨rfl, g55⟩
            have g4955 := g51.trans g55
            refine ⟨_, rfl, by omega, ?_⟩
            rw [and_bit (by omega)]
            refine condP_i (fun h2 => fun d => ?_) fun h2 => skip g4955 (.inr (.inr ?_))
            · have hqx : (q : Int) ∈ xs := by
                refine varsL_bit.1 (Classical.byContradiction fun hc => ?_)
                rw [if_neg hc] at h2
                simp at h2
              obtain ⟨hi, ei⟩ := vs_at hv8' (hbit hvx)
              obtain ⟨hj, ej⟩ := vs_at hq8 (hbit hqx)
              obtain ⟨i, di⟩ : ∃ i, i = cntV b v := ⟨_, rfl⟩
              obtain ⟨j, dj⟩ : ∃ j, j = cntV b q := ⟨_, rfl⟩
              have hi' : i < vs.length := by rw [di, evs]; exact hi
              have hj' : j < vs.length := by rw [dj, evs]; exact hj
              have ei' : vs[i] = (v : Int) := by subst di evs; exact ei
              have ej' : vs[j] = (q : Int) := by subst dj evs; exact ej
              obtain ⟨wd, ewd⟩ : ∃ wd, wd = dr w55 d.1 := ⟨_, rfl⟩
              have gd : Grow w55 wd := by rw [ewd]; exact (Grow.refl w55).dr d.1
              rw [← ewd]
              have g49d := g4955.trans gd
              have f49d := f49.trans (Fr.of_grow g49d)
              have hCd : RecV wd C (encV (atL b 8)) := hC17.grow (lf2 f49d)
              have hGd := Own.grow hG3 g49d
              have hlG : G3.length = n := hI3.len.trans en.symm
              have cv : wd.cell? (Addr.add ⟨C, 0, none⟩ (Int.toNat ((v : Nat) : Int) * 1)) = some (.int .i64 (i : Int)) := by
                rw [Int.toNat_natCast, cells8 hCd (by omega), atL_get (by omega), if_pos (by omega), di]
              have cq : wd.cell? (Addr.add ⟨C, 0, none⟩ (Int.toNat ((q : Nat) : Int) * 1)) = some (.int .i64 (j : Int)) := by
                rw [Int.toNat_natCast, cells8 hCd (by omega), atL_get (by omega), if_pos (by omega), dj]
              have rdg := ownG_rd hGd hlG (i := i) (by omega)
              have fin : (∃ old, wd.cell? (Addr.add ⟨A, 0, none⟩ (Int.toNat ((i : Nat) : Int) * 1)) = some old) ∧ wd.frozen? (Addr.add ⟨A, 0, none⟩ (Int.toNat ((i : Nat) : Int) * 1)) = false ∧ ∀ w', w' = wd.setCell (Addr.add ⟨A, 0, none⟩ (Int.toNat ((i : Nat) : Int) * 1)) (.int .i64 (iOr .i64 ((G3.getD i 0 : Nat) : Int) (iShl .i64 1 (j : Int)))) → inR ((q : Int) + 1) ∧ ((∃ (q' : Nat) (G : List Nat), (q : Int) + 1 = q' ∧ q' ≤ 8 ∧ OwnG w' A (.slice (some ⟨A, 0, none⟩) n n) G ∧ GI vs (Q3 b k xs v q') G ∧ Fr (fun i => i = A) w38 w') ∧ 8 - Int.toNat ((q : Int) + 1) < 8 - Int.toNat (q : Int)) := by
                have lt1 := hI3.lt i
                have lt2 : (2 : Nat) ^ vs.length ≤ 2 ^ 8 := Nat.pow_le_pow_right (by omega) (by omega)
                have lt3 : (2 : Nat) ^ j ≤ 2 ^ 8 := Nat.pow_le_pow_right (by omega) (by omega)
                refine ownG_put hGd hlG (by omega) (y := G3.getD i 0 ||| 2 ^ j) (by rw [iShl_one (by omega), iOr_nat (by omega) (by omega)]) fun w' ho' hf' => ⟨by unfold inR; omega, ⟨q + 1, _, by omega, by omega, ho', (hI3.step hsrt hi' hj' ei' ej' (by omega)).congr fun a c => (Q3_step b k xs v q hvx hqx a c).symm, f49d.trans hf'⟩, by omega⟩
              refine ⟨⟨by omega, by omega⟩, ⟨by omega, by omega⟩, ⟨_, cv, _, _, _, rfl, ⟨by omega, by omega⟩, ⟨_, rdg, _, cq, by omega, _, _, _, rfl, ⟨by omega, by omega⟩, fin⟩, _, cq, by omega, _, rdg, _, _, _, rfl, ⟨by omega, by omega⟩, fin⟩, _, cq, by omega, _, cv, _, _, _, rfl, ⟨by omega, by omega⟩, _, rdg, _, _, _, rfl, ⟨by omega, by omega⟩, fin⟩
            · intro hqx
              rw [if_pos (varsL_bit.2 hqx)] at h2
              simp at h2
          · intro hvx
            rw [if_pos (varsL_bit.2 hvx)] at h1
            simp at h1
        · have : (v : Int) = (q : Int) := by simpa using he
          omega
      · have hqn : q = 8 := by omega
        subst hqn
        exact ⟨by unfold inR; omega, ⟨v + 1, G3, by omega, by omega, hG3, hI3.nat hv8 fun a c _ _ _ h8 => Q3_full b k xs v h8, f49⟩, by first | omega | (dsimp only; omega)⟩
    · have hvn : v = 8 := by omega
      subst hvn
      refine ⟨by unfold inR; omega, ⟨k + 1, G2, by omega, by omega, hG2, hI2.nat hv8 fun a c _ h8 _ _ => ?_, (f32.trans (Fr.of_grow g38)).trans f44⟩, by first | omega | (dsimp only; omega)⟩
      rw [exs]
      exact Q2_full hkl h8
  · have hkn : k = b.length := by omega
    subst hkn
    exact ⟨.inl ⟨ok, hnz, _, G, rfl, Own.slI hG, by rw [← evs]; exact hI⟩, g032⟩
end Go.Proofs.YtleiddajojgmmaaDoor
