/- Contracts: CheckTree and its reference. The table of bits is laid (Tab). -/
import Derived.Test.YtmpjanpmkmlloaaDoorCn
import Derived.Test.YtmpjanpmkmlloaaDoorGt
namespace Go.Proofs.YtmpjanpmkmlloaaDoor
open Go Go.RowKit VC
set_option linter.unusedSimpArgs false
set_option linter.unusedVariables false

theorem cnt_succ (p : Nat → Bool) (k : Nat) : (List.range (k + 1)).countP p = (List.range k).countP p + if p k then 1 else 0 := by
  rw [List.range_succ, List.countP_append, List.countP_singleton]
theorem cnt_le (p : Nat → Bool) (k : Nat) : (List.range k).countP p ≤ k := Nat.le_trans List.countP_le_length (by simp)
theorem bitI {c : Nat} {x : Nat} (hx : x ≤ 64) : (iAnd .i64 (iShr .i64 (c : Int) (x : Int)) 1 = 1) ↔ c.testBit x = true := by
  rw [iBit _ hx, ibit_nat]
  cases c.testBit x <;> simp
theorem bitI0 {c : Nat} {x : Nat} (hx : x ≤ 64) : (iAnd .i64 (iShr .i64 (c : Int) (x : Int)) 1 = 0) ↔ c.testBit x = false := by
  rw [iBit _ hx, ibit_nat]
  cases c.testBit x <;> simp
theorem itr_rng {N : List Nat} {l : List Int} {n : Nat} (h : ∀ i, i < n → -1 ≤ gi l i ∧ gi l i < (n : Int)) : ∀ (k : Nat) (a : Int), -1 ≤ a → a < (n : Int) → -1 ≤ itr l k a ∧ itr l k a < (n : Int)
  | 0, a, h1, h2 => ⟨h1, h2⟩
  | k + 1, a, h1, h2 => by
    unfold itr
    split
    · exact ⟨h1, h2⟩
    · have := h a.toNat (by omega)
      exact itr_rng (N := N) h k _ this.1 this.2
theorem checkTree_no {w : World} {v u : Value} {G : List Int} (hs : SlI w v G) (hv : ¬ VG G) : Calls Tryd.prog 48 #[v, u] w (Ret w (.tuple #[.bool false, .int .i64 2])) := by
  refine f48_calls _ _ ?_
  refine (chordal_no hs hv).mono ?_
  rintro e w1 ⟨rfl, g1⟩
  exact ⟨2, rfl, cT (by simp) ⟨rfl, g1⟩⟩
theorem checkTree_none {w : World} {v u : Value} {N : List Nat} (hs : SlI w v (ofN N)) (hN : VN N) (hT : Tab w) (ho : (ordG N).isSome = false) : Calls Tryd.prog 48 #[v, u] w (Ret w (.tuple #[.bool false, .int .i64 7])) := by
  refine f48_calls _ _ ?_
  refine (chordal_c hs hN hT).mono ?_
  rintro e w1 ⟨rfl, g1⟩
  rw [ho]
  exact ⟨7, rfl, cT (by simp) ⟨rfl, g1⟩⟩
theorem checkTree_c {w : World} {v u : Value} {N : List Nat} {l : List Int} (hs : SlI w v (ofN N)) (hu : SlI w u l) (hN : VN N) (hT : Tab w) (ho : (ordG N).isSome = true) {b : Bool} (hb : b = true ↔ TreeP N l) : Calls Tryd.prog 48 #[v, u] w (Ret w (.tuple #[.bool b, .int .i64 0])) := by
  refine f48_calls _ _ ?_
  have h12 := hN.le
  have hp := hN.pow
  have hfew := mcl_few hN ho
  have no : ∀ {w'}, Grow w w' → ¬ TreeP N l → Ret w (.tuple #[.bool b, .int .i64 0]) (.returned (.tuple #[.bool false, .int .i64 0])) w' := fun hg h => by
    have : b = false := by cases b with | false => rfl | true => exact absurd (hb.1 rfl) h
    subst this
    exact ⟨rfl, hg⟩
  refine (chordal_c hs hN hT).mono ?_
  rintro e w1 ⟨rfl, g1⟩
  rw [ho]
  refine ⟨0, rfl, cF (by simp) ((cliques_c (hs.grow g1) hN (hT.grow g1)).mono ?_)⟩
  rintro e w2 ⟨lv, rfl, hl2, g2⟩
  have g02 := g1.trans g2
  have hlv : ∀ {w'}, Grow w2 w' → SlI w' lv (ofN (mcl N)) := fun g => hl2.slI.grow g
  have huv : ∀ {w'}, Grow w2 w' → SlI w' u l := fun g => hu.grow (g02.trans g)
  refine ⟨lv, rfl, (huv (Grow.refl w2)).ln (hl2.slI.ln (condP_i (fun h => no g02 fun ht => ?_) fun h => (huv (Grow.refl w2)).ln ?_))⟩
  · rw [ofN_len, ht.len] at h; simp at h
  have hlen : l.length = (mcl N).length := by rw [ofN_len] at h; simp at h; omega
  have hget : ∀ {i} (h : i < l.length), l[i] = gi l i := fun h => gi_get h
  refine ⟨fun roots t w' => ∃ k : Nat, t = k ∧ k ≤ (mcl N).length ∧ roots = (((List.range k).countP fun i => decide (gi l i < 0) : Nat) : Int) ∧ (∀ i, i < k → (-1 ≤ gi l i ∧ gi l i < ((mcl N).length : Int)) ∧ itr l (mcl N).length (i : Int) < 0) ∧ Grow w2 w', fun _ t _ => (mcl N).length - t.toNat, ⟨0, rfl, by omega, rfl, fun i h => by omega, Grow.refl _⟩, ?_⟩
  rintro - roots t w3 ⟨k, rfl, hk, rfl, hall, g3⟩
  have g03 := g02.trans g3
  have hcl := cnt_le (fun i => decide (gi l i < 0)) k
  refine condD (fun hlt => ?_) (fun hge => ?_)
  · have hkn : k < (mcl N).length := by omega
    have hkl : k < l.length := by omega
    refine (huv g3).rd rfl hkl ?_
    rw [hget hkl]
    refine condD (fun h => no g03 fun ht => ?_) fun h1 => (hlv g3).ln (condD (fun h => no g03 fun ht => ?_) fun h2 => ?_)
    · have := (ht.rng k hkn).1; omega
    · rw [ofN_len] at h
      have := (ht.rng k hkn).2; omega
    rw [ofN_len] at h2
    refine ⟨fun roots w' => roots = (((List.range (k + 1)).countP fun i => decide (gi l i < 0) : Nat) : Int) ∧ w' = w3, condD (fun h => ⟨by unfold inR; omega, ?_, rfl⟩) (fun h => ⟨?_, rfl⟩), ?_⟩
    · rw [cnt_succ]; simp [h]
    · rw [cnt_succ]; simp [h]
    rintro - roots w4 ⟨rfl, rfl⟩
    refine (hlv g3).ln ?_
    rw [ofN_len]
    refine ⟨fun at_ t w' => ∃ j : Nat, t = j ∧ j ≤ (mcl N).length ∧ at_ = itr l j (k : Int) ∧ -1 ≤ at_ ∧ at_ < ((mcl N).length : Int) ∧ w' = w4, fun _ t _ => (mcl N).length - t.toNat, ⟨0, rfl, by omega, rfl, by omega, by omega, rfl⟩, ?_⟩
    rintro - at_ t w5 ⟨j, rfl, hj, hat, ha1, ha2, rfl⟩
    refine condD (fun hlt2 => condD (fun h0 => ?_) (fun h0 => ?_)) (fun hge2 => ?_)
    · have hal : at_.toNat < l.length := by omega
      refine (huv g3).rd (i := at_.toNat) (by omega) hal ?_
      rw [hget hal]
      refine condD (fun h => no g03 fun ht => ?_) fun h3 => (hlv g3).ln (condD (fun h => no g03 fun ht => ?_) fun h4 => ?_)
      · have := (ht.rng at_.toNat (by omega)).1; omega
      · rw [ofN_len] at h
        have := (ht.rng at_.toNat (by omega)).2; omega
      rw [ofN_len] at h4
      refine ⟨by unfold inR; omega, ⟨j + 1, by omega, by omega, ?_, by omega, by omega, rfl⟩, by dsimp only; omega⟩
      rw [itr_succ, ← hat, if_neg (by omega)]
    · refine ⟨by unfold inR; omega, ⟨j + 1, by omega, by omega, ?_, ha1, ha2, rfl⟩, by dsimp only; omega⟩
      rw [itr_succ, ← hat, if_pos (by omega)]
    · have hjn : j = (mcl N).length := by omega
      subst hjn
      refine condD (fun h0 => no g03 fun ht => ?_) (fun h0 => ?_)
      · have := ht.acy k hkn
        omega
      · refine ⟨by unfold inR; omega, ⟨k + 1, by omega, by omega, rfl, fun i hi => ?_, g3⟩, by dsimp only; omega⟩
        by_cases e : i = k
        · subst e
          exact ⟨⟨by omega, by omega⟩, by omega⟩
        · exact hall i (by omega)
  · have hkn : k = (mcl N).length := by omega
    subst hkn
    refine (hs.grow g03).ln ?_
    rw [ofN_len]
    refine ⟨fun t w' => ∃ x : Nat, t = x ∧ x ≤ N.length ∧ (∀ y, y < x → (List.range (mcl N).length).countP (topB (mcl N) l y) = 1) ∧ Grow w2 w', fun t _ => N.length - t.toNat, ⟨0, rfl, by omega, fun y h => by omega, g3⟩, ?_⟩
    rintro - t w4 ⟨x, rfl, hx, htop, g4⟩
    have g04 := g02.trans g4
    refine condD (fun hlt2 => (hlv g4).ln ?_) (fun hge2 => ?_)
    · have hxl : x < N.length := by omega
      rw [ofN_len]
      refine ⟨fun tops t w' => ∃ i : Nat, t = i ∧ i ≤ (mcl N).length ∧ tops = (((List.range i).countP (topB (mcl N) l x) : Nat) : Int) ∧ w' = w4, fun _ t _ => (mcl N).length - t.toNat, ⟨0, rfl, by omega, rfl, rfl⟩, ?_⟩
      rintro - tops t w5 ⟨i, rfl, hi, rfl, rfl⟩
      have hcl2 := cnt_le (topB (mcl N) l x) i
      refine condD (fun hlt3 => ?_) (fun hge3 => ?_)
      · have hil : i < (mcl N).length := by omega
        have hil' : i < l.length := by omega
        have step : ∀ q : Bool, topB (mcl N) l x i = q → ((q = true → inR ((((List.range i).countP (topB (mcl N) l x) : Nat) : Int) + 1) ∧ inR ((i : Int) + 1) ∧ (∃ i' : Nat, (i : Int) + 1 = i' ∧ i' ≤ (mcl N).length ∧ (((List.range i).countP (topB (mcl N) l x) : Nat) : Int) + 1 = (((List.range i').countP (topB (mcl N) l x) : Nat) : Int) ∧ w5 = w5) ∧ (mcl N).length - Int.toNat ((i : Int) + 1) < (mcl N).length - Int.toNat (i : Int)) ∧
            (q = false → inR ((i : Int) + 1) ∧ (∃ i' : Nat, (i : Int) + 1 = i' ∧ i' ≤ (mcl N).length ∧ (((List.range i).countP (topB (mcl N) l x) : Nat) : Int) = (((List.range i').countP (topB (mcl N) l x) : Nat) : Int) ∧ w5 = w5) ∧ (mcl N).length - Int.toNat ((i : Int) + 1) < (mcl N).length - Int.toNat (i : Int))) := fun q hq => by
          refine ⟨fun h => ⟨by unfold inR; omega, by unfold inR; omega, ⟨i + 1, by omega, by omega, ?_, rfl⟩, by omega⟩, fun h => ⟨by unfold inR; omega, ⟨i + 1, by omega, by omega, ?_, rfl⟩, by omega⟩⟩
          · rw [cnt_succ, hq, h]; simp
          · rw [cnt_succ, hq, h]; simp
        refine (hlv g4).rd rfl (by simpa using hil) ?_
        rw [ofN_get, gn_get hil]
        refine ⟨by omega, condD (fun h1 => (huv g4).rd rfl hil' ?_) fun h1 => ?_⟩
        · rw [bitI (by omega)] at h1
          rw [hget hil']
          refine condD (fun h2 => (step true (by unfold topB; rw [h1]; simp [h2])).1 rfl) fun h2 => (huv g4).rd rfl hil' ?_
          rw [hget hil']
          have hr := (hall i hil).1
          have hpl : (gi l i).toNat < (mcl N).length := by omega
          refine (hlv g4).rd (i := (gi l i).toNat) (by omega) (by simpa using hpl) ?_
          rw [ofN_get, gn_get hpl]
          refine ⟨by omega, condD (fun h3 => ?_) fun h3 => ?_⟩
          · rw [bitI0 (by omega)] at h3
            exact (step true (by unfold topB; rw [h1, h3]; simp)).1 rfl
          · rw [bitI0 (by omega)] at h3
            have h3 : (gn (mcl N) (gi l i).toNat).testBit x = true := by simpa using h3
            exact (step false (by unfold topB; rw [h1, h3]; simp; omega)).2 rfl
        · rw [bitI (by omega)] at h1
          exact (step false (by unfold topB; simp [h1])).2 rfl
      · have hin : i = (mcl N).length := by omega
        subst hin
        refine condP_i (fun h => no g04 fun ht => ?_) (fun h => ?_)
        · have := ht.top x hxl
          rw [this] at h; simp at h
        · refine ⟨by unfold inR; omega, ⟨x + 1, by omega, by omega, fun y hy => ?_, g4⟩, by dsimp only; omega⟩
          by_cases e : y = x
          · subst e
            simp at h; omega
          · exact htop y (by omega)
    · have hxl : x = N.length := by omega
      subst hxl
      refine ⟨?_, g04⟩
      congr 2
      have : decide (((((List.range (mcl N).length).countP fun i => decide (gi l i < 0) : Nat) : Int)) = 1) = b := by
        rw [Bool.eq_iff_iff, hb, decide_eq_true_eq]
        constructor
        · intro h
          exact ⟨hlen, fun i hi => (hall i hi).1, fun i hi => (hall i hi).2, by omega, htop⟩
        · intro ht
          have := ht.root
          omega
      rw [this]
/-! ## The reference -/
def topS (l : List Int) (s i : Nat) : Bool := s.testBit i && (decide (gi l i < 0) || !s.testBit (gi l i).toNat)
theorem joined_c {w : World} {u : Value} {l : List Int} {s : Nat} (hu : SlI w u l) (hl : l.length ≤ 12) (hr : ∀ i, i < l.length → gi l i ≤ 64) : Calls Tryd.prog 98 #[u, .int .i64 (s : Int)] w (Ret w (.bool (decide ((List.range l.length).countP (topS l s) = 1)))) := by
  refine f98_calls _ _ ?_
  have hget : ∀ {i} (h : i < l.length), l[i] = gi l i := fun h => gi_get h
  refine hu.ln ⟨fun tops t w' => ∃ i : Nat, t = i ∧ i ≤ l.length ∧ tops = (((List.range i).countP (topS l s) : Nat) : Int) ∧ w' = w, fun _ t _ => l.length - t.toNat, ⟨0, rfl, by omega, rfl, rfl⟩, ?_⟩
  rintro - tops t w' ⟨i, rfl, hi, rfl, rfl⟩
  have hcl := cnt_le (topS l s) i
  refine condD (fun hlt => ?_) (fun hge => ?_)
  · have hil : i < l.length := by omega
    have step : ∀ q : Bool, topS l s i = q → ((q = true → inR ((((List.range i).countP (topS l s) : Nat) : Int) + 1) ∧ inR ((i : Int) + 1) ∧ (∃ i' : Nat, (i : Int) + 1 = i' ∧ i' ≤ l.length ∧ (((List.range i).countP (topS l s) : Nat) : Int) + 1 = (((List.range i').countP (topS l s) : Nat) : Int) ∧ w' = w') ∧ l.length - Int.toNat ((i : Int) + 1) < l.length - Int.toNat (i : Int)) ∧
        (q = false → inR ((i : Int) + 1) ∧ (∃ i' : Nat, (i : Int) + 1 = i' ∧ i' ≤ l.length ∧ (((List.range i).countP (topS l s) : Nat) : Int) = (((List.range i').countP (topS l s) : Nat) : Int) ∧ w' = w') ∧ l.length - Int.toNat ((i : Int) + 1) < l.length - Int.toNat (i : Int))) := fun q hq => by
      refine ⟨fun h => ⟨by unfold inR; omega, by unfold inR; omega, ⟨i + 1, by omega, by omega, ?_, rfl⟩, by omega⟩, fun h => ⟨by unfold inR; omega, ⟨i + 1, by omega, by omega, ?_, rfl⟩, by omega⟩⟩
      · rw [cnt_succ, hq, h]; simp
      · rw [cnt_succ, hq, h]; simp
    refine hu.rd rfl hil ?_
    rw [hget hil]
    refine ⟨by omega, condD (fun h1 => condD (fun h2 => ?_) fun h2 => ⟨by omega, ?_⟩) fun h1 => ?_⟩
    · rw [bitI (by omega)] at h1
      exact (step true (by unfold topS; rw [h1]; simp [h2])).1 rfl
    · rw [bitI (by omega)] at h1
      have hr' := hr i hil
      have e : gi l i = ((gi l i).toNat : Int) := by omega
      rw [e]
      refine condD (fun h3 => ?_) fun h3 => ?_
      · rw [bitI0 (by omega)] at h3
        exact (step true (by unfold topS; rw [h1, h3]; simp)).1 rfl
      · rw [bitI0 (by omega)] at h3
        have h3 : s.testBit (gi l i).toNat = true := by simpa using h3
        exact (step false (by unfold topS; rw [h1, h3]; simp; omega)).2 rfl
    · rw [bitI (by omega)] at h1
      exact (step false (by unfold topS; simp [h1])).2 rfl
  · have : i = l.length := by omega
    subst this
    refine ⟨?_, Grow.refl _⟩
    have : decide ((((List.range l.length).countP (topS l s) : Nat) : Int) = 1) = decide ((List.range l.length).countP (topS l s) = 1) := by rw [Bool.eq_iff_iff, decide_eq_true_eq, decide_eq_true_eq]; omega
    rw [this]
theorem countP_eq {p q : Nat → Bool} {n : Nat} (h : ∀ i, i < n → p i = q i) : (List.range n).countP p = (List.range n).countP q :=
  List.countP_congr fun i hi => by rw [h i (List.mem_range.1 hi)]
theorem refTree_c {w : World} {v u : Value} {N : List Nat} {l : List Int} (hs : SlI w v (ofN N)) (hu : SlI w u l) (hN : VN N) (ho : (ordG N).isSome = true) {b : Bool} (hb : b = true ↔ TreeP N l) : Calls Tryd.prog 50 #[v, u] w (Ret w (.bool b)) := by
  refine f50_calls _ _ ?_
  have h12 := hN.le
  have hp := hN.pow
  have hfew := mcl_few hN ho
  have no : ∀ {w'}, Grow w w' → ¬ TreeP N l → Ret w (.bool b) (.returned (.bool false)) w' := fun hg h => by
    have : b = false := by cases b with | false => rfl | true => exact absurd (hb.1 rfl) h
    subst this
    exact ⟨rfl, hg⟩
  refine (refCliques_c hs hN).mono ?_
  rintro e w2 ⟨lv, rfl, hl2, g02⟩
  have hlv : ∀ {w'}, Grow w2 w' → SlI w' lv (ofN (mcl N)) := fun g => hl2.slI.grow g
  have huv : ∀ {w'}, Grow w2 w' → SlI w' u l := fun g => hu.grow (g02.trans g)
  refine ⟨lv, rfl, hl2.slI.ln ((huv (Grow.refl w2)).ln (condP_i (fun h => no g02 fun ht => ?_) fun h => (huv (Grow.refl w2)).ln ?_))⟩
  · rw [ofN_len, ht.len] at h; simp at h
  have hlen : l.length = (mcl N).length := by rw [ofN_len] at h; simp at h; omega
  have hget : ∀ {i} (h : i < l.length), l[i] = gi l i := fun h => gi_get h
  rw [ofN_len]
  refine ⟨fun t w' => ∃ k : Nat, t = k ∧ k ≤ (mcl N).length ∧ (∀ i, i < k → (-1 ≤ gi l i ∧ gi l i < ((mcl N).length : Int)) ∧ itr l (mcl N).length (i : Int) < 0) ∧ Grow w2 w', fun t _ => (mcl N).length - t.toNat, ⟨0, rfl, by omega, fun i h => by omega, Grow.refl _⟩, ?_⟩
  rintro - t w3 ⟨k, rfl, hk, hall, g3⟩
  have g03 := g02.trans g3
  refine condD (fun hlt => ?_) (fun hge => ?_)
  · have hkn : k < (mcl N).length := by omega
    have hkl : k < l.length := by omega
    refine (huv g3).rd rfl hkl ?_
    rw [hget hkl]
    refine condD (fun h => no g03 fun ht => ?_) fun h1 => condD (fun h => no g03 fun ht => ?_) fun h2 => ?_
    · have := (ht.rng k hkn).1; omega
    · have := (ht.rng k hkn).2; omega
    refine ⟨fun at_ t w' => ∃ j : Nat, t = j ∧ j ≤ (mcl N).length ∧ at_ = itr l j (k : Int) ∧ -1 ≤ at_ ∧ at_ < ((mcl N).length : Int) ∧ w' = w3, fun _ t _ => (mcl N).length - t.toNat, ⟨0, rfl, by omega, rfl, by omega, by omega, rfl⟩, ?_⟩
    rintro - at_ t w5 ⟨j, rfl, hj, hat, ha1, ha2, rfl⟩
    refine condD (fun hlt2 => condD (fun h0 => ?_) (fun h0 => ?_)) (fun hge2 => ?_)
    · have hal : at_.toNat < l.length := by omega
      refine (huv g3).rd (i := at_.toNat) (by omega) hal ?_
      rw [hget hal]
      refine condD (fun h => no g03 fun ht => ?_) fun h3 => condD (fun h => no g03 fun ht => ?_) fun h4 => ?_
      · have := (ht.rng at_.toNat (by omega)).1; omega
      · have := (ht.rng at_.toNat (by omega)).2; omega
      refine ⟨by unfold inR; omega, ⟨j + 1, by omega, by omega, ?_, by omega, by omega, rfl⟩, by dsimp only; omega⟩
      rw [itr_succ, ← hat, if_neg (by omega)]
    · refine ⟨by unfold inR; omega, ⟨j + 1, by omega, by omega, ?_, ha1, ha2, rfl⟩, by dsimp only; omega⟩
      rw [itr_succ, ← hat, if_pos (by omega)]
    · have hjn : j = (mcl N).length := by omega
      subst hjn
      refine condP_i (fun h0 => no g03 fun ht => ?_) (fun h0 => ?_)
      · have := ht.acy k hkn
        simp at h0; omega
      · refine ⟨by unfold inR; omega, ⟨k + 1, by omega, by omega, fun i hi => ?_, g3⟩, by dsimp only; omega⟩
        by_cases e : i = k
        · subst e
          simp at h0
          exact ⟨⟨by omega, by omega⟩, by omega⟩
        · exact hall i (by omega)
  · have hkn : k = (mcl N).length := by omega
    subst hkn
    have hone := Nat.pow_pos (n := (mcl N).length) (show 0 < 2 by omega)
    have h4 : 2 ^ (mcl N).length ≤ 4096 := pow12 (by omega)
    have hall1 : iShl .i64 1 ((mcl N).length : Int) - 1 = ((2 ^ (mcl N).length - 1 : Nat) : Int) := by rw [iShl_one (by omega)]; omega
    rw [hall1]
    have hr64 : ∀ i, i < l.length → gi l i ≤ 64 := fun i hi => by have := (hall i (by omega)).1; omega
    refine ⟨by omega, by unfold inR; omega, (joined_c (huv g3) (by omega) hr64).mono ?_⟩
    rintro e w4 ⟨rfl, g34⟩
    have g4 := g3.trans g34
    have hroot : (List.range l.length).countP (topS l (2 ^ (mcl N).length - 1)) = (List.range (mcl N).length).countP fun i => decide (gi l i < 0) := by
      rw [hlen]
      refine countP_eq fun i hi => ?_
      unfold topS
      have hri := (hall i hi).1
      rw [Nat.testBit_two_pow_sub_one, Nat.testBit_two_pow_sub_one]
      have h1 : decide (i < (mcl N).length) = true := by simpa using hi
      rw [h1, Bool.true_and]
      by_cases hn : gi l i < 0
      · simp [hn]
      · have : decide ((gi l i).toNat < (mcl N).length) = true := by
          rw [decide_eq_true_eq]; omega
        rw [this]; simp
    refine ⟨_, rfl, condP_i (fun h => no (g02.trans g4) fun ht => ?_) fun h => ?_⟩
    · rw [hroot, ht.root] at h; simp at h
    have hroot1 : (List.range (mcl N).length).countP (fun i => decide (gi l i < 0)) = 1 := by rw [← hroot]; simpa using h
    refine (hs.grow (g02.trans g4)).ln ?_
    rw [ofN_len]
    refine ⟨fun t w' => ∃ x : Nat, t = x ∧ x ≤ N.length ∧ (∀ y, y < x → (List.range (mcl N).length).countP (topB (mcl N) l y) = 1) ∧ Grow w2 w', fun t _ => N.length - t.toNat, ⟨0, rfl, by omega, fun y h => by omega, g4⟩, ?_⟩
    rintro - t w5 ⟨x, rfl, hx, htop, g5⟩
    refine condD (fun hlt2 => (hlv g5).ln ?_) (fun hge2 => ?_)
    · have hxl : x < N.length := by omega
      rw [ofN_len]
      refine ⟨fun set t w' => ∃ (i s : Nat), t = i ∧ i ≤ (mcl N).length ∧ set = (s : Int) ∧ s < 4096 ∧ (∀ j, s.testBit j = true ↔ j < i ∧ (gn (mcl N) j).testBit x = true) ∧ w' = w5, fun _ t _ => (mcl N).length - t.toNat, ⟨0, 0, rfl, by omega, rfl, by omega, fun j => by simp, rfl⟩, ?_⟩
      rintro - set t w6 ⟨i, s, rfl, hi, rfl, hs4, hsb, rfl⟩
      refine condD (fun hlt3 => ?_) (fun hge3 => ?_)
      · have hil : i < (mcl N).length := by omega
        refine (hlv g5).rd rfl (by simpa using hil) ?_
        rw [ofN_get, gn_get hil]
        refine ⟨by omega, condD (fun h1 => ⟨by omega, by unfold inR; omega, ⟨i + 1, s ||| 2 ^ i, by omega, by omega, ?_, ?_, fun j => ?_, rfl⟩, by dsimp only; omega⟩) fun h1 => ⟨by unfold inR; omega, ⟨i + 1, s, by omega, by omega, rfl, hs4, fun j => ?_, rfl⟩, by dsimp only; omega⟩⟩
        · rw [iShl_one (by omega), iOr_nat (by omega) (p2 (by omega))]
        · exact Nat.or_lt_two_pow (n := 12) hs4 (Nat.pow_lt_pow_right (by omega) (by omega))
        · rw [bitI (by omega)] at h1
          rw [Nat.testBit_or, two_bit, Bool.or_eq_true, hsb, decide_eq_true_eq]
          constructor
          · rintro (⟨a, c⟩ | rfl)
            · exact ⟨by omega, c⟩
            · exact ⟨by omega, h1⟩
          · rintro ⟨a, c⟩
            by_cases e : j = i
            · exact .inr e.symm
            · exact .inl ⟨by omega, c⟩
        · rw [bitI (by omega)] at h1
          rw [hsb]
          constructor
          · rintro ⟨a, c⟩; exact ⟨by omega, c⟩
          · rintro ⟨a, c⟩
            by_cases e : j = i
            · subst e; exact absurd c h1
            · exact ⟨by omega, c⟩
      · have hin : i = (mcl N).length := by omega
        subst hin
        refine (joined_c (s := s) (huv g5) (by omega) hr64).mono ?_
        rintro e w7 ⟨rfl, g7⟩
        have heq : (List.range l.length).countP (topS l s) = (List.range (mcl N).length).countP (topB (mcl N) l x) := by
          rw [hlen]
          refine countP_eq fun i hi => ?_
          unfold topS topB
          have b1 : ∀ j, j < (mcl N).length → s.testBit j = (gn (mcl N) j).testBit x := fun j hj => by
            rw [Bool.eq_iff_iff, hsb]
            exact ⟨fun h => h.2, fun h => ⟨hj, h⟩⟩
          rw [b1 i hi]
          by_cases hn : gi l i < 0
          · simp [hn]
          · have hri := (hall i hi).1
            rw [b1 (gi l i).toNat (by omega)]
        refine ⟨_, rfl, condP_i (fun h => no (g02.trans (g5.trans g7)) fun ht => ?_) fun h => ?_⟩
        · rw [heq, ht.top x hxl] at h; simp at h
        · have h1 : (List.range (mcl N).length).countP (topB (mcl N) l x) = 1 := by rw [← heq]; simpa using h
          refine ⟨by unfold inR; omega, ⟨x + 1, by omega, by omega, fun y hy => ?_, g5.trans g7⟩, by dsimp only; omega⟩
          by_cases e : y = x
          · subst e; exact h1
          · exact htop y (by omega)
    · have hxl : x = N.length := by omega
      subst hxl
      have : b = true := hb.2 ⟨hlen, fun i hi => (hall i hi).1, fun i hi => (hall i hi).2, hroot1, htop⟩
      subst this
      exact ⟨rfl, g02.trans g5⟩
end Go.Proofs.YtmpjanpmkmlloaaDoor
