/- Contracts: valid facts by the program; valid atoms, queries and facts by the reference. No condition. -/
import Derived.Test.YtddpjdlhgggbkaaMb
namespace Go.Proofs.Ytddpjdlhgggbkaa
open Go Go.RowKit VC
set_option linter.unusedSimpArgs false
set_option linter.unusedVariables false

theorem badFact_c {w : World} {r : Int} {v : Value} {xs : List Int} (hs : SlI w v xs) : Calls Try.prog 54 #[.agg #[.int .i64 r, v]] w (Ret w (.bool (!okF (r, xs)))) := by
  refine f54_calls _ ?_
  refine ⟨_, rfl, fun w1 hw1 => ?_⟩
  have g1 := alloc_grow hw1
  have hle := hs.len_le
  have no : ∀ {w'}, Grow w w' → ¬ okF (r, xs) = true → Ret w (.bool (!okF (r, xs))) (.returned (.bool true)) w' := fun g h => ⟨by rw [Bool.not_eq_true] at h; rw [h]; rfl, g⟩
  refine ⟨_, boxc hw1 0 _ rfl, condD (fun h0 => no g1 (by rw [okF_iff]; dsimp only; omega)) fun h0 => ?_⟩
  refine ⟨_, boxc hw1 0 _ rfl, condD (fun h1 => no g1 (by rw [okF_iff]; dsimp only; omega)) fun h1 => ?_⟩
  refine ⟨_, boxc hw1 1 _ rfl, (hs.grow g1).ln (condD (fun h2 => no g1 (by rw [okF_iff]; dsimp only; omega)) fun h2 => ?_)⟩
  refine ⟨_, boxc hw1 1 _ rfl, (hs.grow g1).ln (condD (fun h3 => no g1 (by rw [okF_iff]; dsimp only; omega)) fun h3 => ?_)⟩
  refine ⟨_, boxc hw1 1 _ rfl, (minI_c (hs.grow g1) (by omega)).mono ?_⟩
  rintro e w2 ⟨m, rfl, hm, hall, g2⟩
  have g02 := g1.trans g2
  refine ⟨_, rfl, condD (fun h4 => no g02 ?_) fun h4 => ?_⟩
  · rw [okF_iff]
    rintro ⟨-, -, -, -, h⟩
    have := h m hm
    omega
  refine ⟨_, g2.cell (boxc hw1 1 _ rfl), (maxI_c (hs.grow g02) (by omega)).mono ?_⟩
  rintro e w3 ⟨M, rfl, hM, hall2, g3⟩
  refine ⟨_, rfl, ?_, g02.trans g3⟩
  congr 2
  rw [Bool.eq_iff_iff, decide_eq_true_iff, Bool.not_eq_true', ← Bool.not_eq_true, okF_iff]
  constructor
  · rintro h ⟨-, -, -, -, h'⟩
    have := h' M hM
    omega
  · intro h
    refine Classical.byContradiction fun hn => h ⟨by dsimp only; omega, by dsimp only; omega, by dsimp only; omega, by dsimp only; omega, fun x hx => ?_⟩
    have h5 := hall x hx
    have h6 := hall2 x hx
    omega
/-- The program's test of facts. -/
theorem isFacts_c {w : World} {v : Value} {l : List Atm} (hs : SlA w v l) : Calls Try.prog 39 #[v] w (Ret w (.bool (okFs l))) := by
  refine f39_calls _ ?_
  refine SlX.ln hs (condD (fun h => ?_) fun h => ⟨?_, Grow.refl w⟩)
  · refine (containsFact_c (p := fun a => !okF a) hs ⟨_, _, _, rfl, by kernel_rfl, fun a _ w' u _ hu => by rw [app0]; exact badFact_c hu⟩).mono ?_
    rintro e w2 ⟨rfl, g2⟩
    refine ⟨_, rfl, ?_, g2⟩
    congr 2
    have : decide (l.length ≤ 24) = true := decide_eq_true (by omega)
    simp only [okFs, this, Bool.true_and]
    rw [← Bool.not_not (l.all _), List.not_all_eq_any_not]
  · have : decide (l.length ≤ 24) = false := decide_eq_false (by omega)
    simp only [okFs, this, Bool.false_and]
/-! ## The reference -/
theorem refTerm_c {x : Int} {w : World} : Calls Try.prog 52 #[.int .i64 x] w (Ret w (.bool (okT x))) := by
  refine f52_calls _ ?_
  refine condD (fun h => ⟨?_, Grow.refl w⟩) fun h => ⟨?_, Grow.refl w⟩
  · have : decide (-9 ≤ x) = true := decide_eq_true h
    simp only [okT, this, Bool.true_and]
  · have : decide (-9 ≤ x) = false := decide_eq_false h
    simp only [okT, this, Bool.false_and]
theorem refRight_c {w : World} {r : Int} {v : Value} {xs : List Int} (hs : SlI w v xs) : Calls Try.prog 34 #[.agg #[.int .i64 r, v]] w (Ret w (.bool (okA (r, xs)))) := by
  refine f34_calls _ ?_
  refine ⟨_, rfl, fun w1 hw1 => ?_⟩
  have g1 := alloc_grow hw1
  have hle := hs.len_le
  have no : ∀ {w'}, Grow w w' → ¬ okA (r, xs) = true → Ret w (.bool (okA (r, xs))) (.returned (.bool false)) w' := fun g h => ⟨by rw [Bool.not_eq_true] at h; rw [h], g⟩
  refine ⟨_, boxc hw1 1 _ rfl, (hs.grow g1).ln ?_⟩
  refine ⟨fun t w' => ∃ k : Nat, t = k ∧ k ≤ xs.length ∧ (∀ x ∈ xs.take k, -9 ≤ x ∧ x ≤ 7) ∧ Grow w1 w', fun t _ => xs.length - t.toNat, ⟨0, rfl, by omega, by simp, Grow.refl w1⟩, ?_⟩
  rintro - t w2 ⟨k, rfl, hk, hall, g2⟩
  have g02 := g1.trans g2
  refine condD (fun hlt => ?_) (fun hge => ?_)
  · have hkl : k < xs.length := by omega
    refine (hs.grow g02).rd rfl hkl (refTerm_c.mono ?_)
    rintro e w3 ⟨rfl, g3⟩
    refine ⟨_, rfl, condP_i (fun h => no (g02.trans g3) ?_) fun h => ?_⟩
    · rw [okA_iff]
      rintro ⟨-, -, -, -, h'⟩
      have := okT_iff.2 (h' _ (List.getElem_mem hkl))
      rw [this] at h; cases h
    · refine ⟨by unfold inR; omega, ⟨k + 1, by omega, by omega, fun x hx => ?_, g2.trans g3⟩, by dsimp only; omega⟩
      rw [List.take_succ_eq_append_getElem hkl] at hx
      rcases List.mem_append.1 hx with hx | hx
      · exact hall x hx
      · have : x = xs[k] := by simpa using hx
        subst this
        exact okT_iff.1 (by simpa using h)
  · have hkl : k = xs.length := by omega
    subst hkl
    rw [List.take_length] at hall
    refine ⟨_, g2.cell (boxc hw1 0 _ rfl), condD (fun h0 => ?_) fun h0 => no g02 (by rw [okA_iff]; dsimp only; omega)⟩
    refine ⟨_, g2.cell (boxc hw1 0 _ rfl), condD (fun h1 => ?_) fun h1 => no g02 (by rw [okA_iff]; dsimp only; omega)⟩
    refine ⟨_, g2.cell (boxc hw1 1 _ rfl), (hs.grow g02).ln (condD (fun h2 => ?_) fun h2 => no g02 (by rw [okA_iff]; dsimp only; omega))⟩
    refine ⟨_, g2.cell (boxc hw1 1 _ rfl), (hs.grow g02).ln ⟨?_, g02⟩⟩
    congr 2
    rw [Bool.eq_iff_iff, decide_eq_true_iff, okA_iff]
    constructor
    · intro h
      exact ⟨by dsimp only; omega, by dsimp only; omega, by dsimp only; omega, by dsimp only; omega, hall⟩
    · rintro ⟨-, -, -, h, -⟩
      dsimp only at h; omega
theorem refVars_c {w : World} {r : Int} {v : Value} {xs : List Int} (hs : SlI w v xs) (hx : ∀ x ∈ xs, -9 ≤ x ∧ x ≤ 7) : Calls Try.prog 36 #[.agg #[.int .i64 r, v]] w (Ret w (.int .i64 (varsL xs : Nat))) := by
  refine f36_calls _ ?_
  refine ⟨_, rfl, fun w1 hw1 => ?_⟩
  have g1 := alloc_grow hw1
  have hle := hs.len_le
  have hb := varsL_take hx
  refine ⟨_, boxc hw1 1 _ rfl, (hs.grow g1).ln ?_⟩
  refine ⟨fun set t w' => ∃ k : Nat, t = k ∧ k ≤ xs.length ∧ set = ((varsL (xs.take k) : Nat) : Int) ∧ Grow w w', fun _ t _ => xs.length - t.toNat, ⟨0, rfl, by omega, rfl, g1⟩, ?_⟩
  rintro - - t w2 ⟨k, rfl, hk, rfl, g2⟩
  refine condD (fun hlt => ?_) (fun hge => ?_)
  · have hkl : k < xs.length := by omega
    have hxk := hx _ (List.getElem_mem hkl)
    have ht := List.take_succ_eq_append_getElem hkl
    have hb1 := hb k
    refine (hs.grow g2).rd rfl hkl (condD (fun h0 => ?_) fun h0 => ?_)
    · obtain ⟨n, hn⟩ : ∃ n : Nat, xs[k] = (n : Int) := ⟨xs[k].toNat, by omega⟩
      have h2 : 2 ^ n < 256 := Nat.pow_lt_pow_right (a := 2) (n := 8) (by omega) (by omega)
      refine ⟨by omega, by unfold inR; omega, ⟨k + 1, by omega, by omega, ?_, g2⟩, by dsimp only; omega⟩
      rw [ht, varsL_app, if_pos h0, hn, iShl_one (by omega), iOr_nat (by omega) (by omega), Int.toNat_natCast]
    · refine ⟨by unfold inR; omega, ⟨k + 1, by omega, by omega, ?_, g2⟩, by dsimp only; omega⟩
      rw [ht, varsL_app, if_neg h0, Nat.or_zero]
  · have hkl : k = xs.length := by omega
    subst hkl
    exact ⟨by rw [List.take_length], g2⟩
theorem refAll_c {w : World} {hv v : Value} {l : List Atm} (hs : SlA w v l) (hl : ∀ a ∈ l, okA a = true) : Calls Try.prog 35 #[.agg #[hv, v]] w (Ret w (.int .i64 (varsB l : Nat))) := by
  refine f35_calls _ ?_
  refine ⟨_, rfl, fun w1 hw1 => ?_⟩
  have g1 := alloc_grow hw1
  have hle := SlX.len_le hs
  refine ⟨_, boxc hw1 1 _ rfl, SlX.ln (hs.gr g1) ?_⟩
  refine ⟨fun set t w' => ∃ k : Nat, t = k ∧ k ≤ l.length ∧ set = ((varsB (l.take k) : Nat) : Int) ∧ Grow w w', fun _ t _ => l.length - t.toNat, ⟨0, rfl, by omega, rfl, g1⟩, ?_⟩
  rintro - - t w2 ⟨k, rfl, hk, rfl, g2⟩
  refine condD (fun hlt => ?_) (fun hge => ?_)
  · have hkl : k < l.length := by omega
    have hx := (okA_iff.1 (hl _ (List.getElem_mem hkl))).2.2.2.2
    refine SlX.loc (hs.gr g2) rfl hkl rfl fun w3 u g3 _ hu c0 c1 => ?_
    refine ⟨[_, _], rfl, two c0 c1, (refVars_c hu hx).mono ?_⟩
    rintro e w4 ⟨rfl, g4⟩
    have h1 := varsB_take hl k
    have h2 := varsL_lt hx
    refine ⟨_, rfl, by unfold inR; omega, ⟨k + 1, by omega, by omega, ?_, (g2.trans g3).trans g4⟩, by dsimp only; omega⟩
    rw [List.take_succ_eq_append_getElem hkl, varsB_app, iOr_nat (by omega) (by omega)]
  · have hkl : k = l.length := by omega
    subst hkl
    exact ⟨by rw [List.take_length], g2⟩
/-- The reference's test of a query. -/
theorem refValid_c {w : World} {hv v : Value} {h : List Int} {l : List Atm} (hh : SlI w hv h) (hs : SlA w v l) : Calls Try.prog 17 #[.agg #[hv, v]] w (Ret w (.bool (okQ h l))) := by
  refine f17_calls _ ?_
  refine ⟨_, rfl, fun w1 hw1 => ?_⟩
  have g1 := alloc_grow hw1
  have no : ∀ {w'}, Grow w w' → okQ h l = false → Ret w (.bool (okQ h l)) (.returned (.bool false)) w' := fun g h => ⟨by rw [h], g⟩
  refine ⟨_, boxc hw1 1 _ rfl, SlX.ln (hs.gr g1) (condD (fun h0 => no g1 ?_) fun h0 => ?_)⟩
  · have : ¬ 1 ≤ l.length := by omega
    simp only [okQ, decide_eq_false this, Bool.false_and]
  refine ⟨_, boxc hw1 1 _ rfl, SlX.ln (hs.gr g1) (condD (fun h1 => no g1 ?_) fun h1 => ?_)⟩
  · have : ¬ l.length ≤ 5 := by omega
    simp only [okQ, decide_eq_false this, Bool.false_and, Bool.and_false]
  refine ⟨_, boxc hw1 0 _ rfl, (hh.grow g1).ln (condD (fun h2 => no g1 ?_) fun h2 => ?_)⟩
  · have : ¬ h.length ≤ 4 := by omega
    simp only [okQ, decide_eq_false this, Bool.false_and, Bool.and_false]
  refine ⟨_, boxc hw1 1 _ rfl, SlX.ln (hs.gr g1) ?_⟩
  refine ⟨fun t w' => ∃ k : Nat, t = k ∧ k ≤ l.length ∧ (∀ a ∈ l.take k, okA a = true) ∧ Grow w1 w', fun t _ => l.length - t.toNat, ⟨0, rfl, by omega, by simp, Grow.refl w1⟩, ?_⟩
  rintro - t w2 ⟨k, rfl, hk, hall, g2⟩
  have g02 := g1.trans g2
  refine condD (fun hlt => ?_) (fun hge => ?_)
  · have hkl : k < l.length := by omega
    refine SlX.loc (hs.gr g02) rfl hkl rfl fun w3 u g3 _ hu c0 c1 => ?_
    refine ⟨[_, _], rfl, two c0 c1, (refRight_c hu).mono ?_⟩
    rintro e w4 ⟨rfl, g4⟩
    have g24 := g3.trans g4
    refine ⟨_, rfl, condP_i (fun h3 => no (g02.trans g24) ?_) fun h3 => ?_⟩
    · have : l.all okA = false := by
        rw [List.all_eq_false]
        exact ⟨l[k], List.getElem_mem hkl, by simpa using h3⟩
      simp only [okQ, this, Bool.false_and, Bool.and_false]
    · refine ⟨by unfold inR; omega, ⟨k + 1, by omega, by omega, fun x hx => ?_, g2.trans g24⟩, by dsimp only; omega⟩
      rw [List.take_succ_eq_append_getElem hkl] at hx
      rcases List.mem_append.1 hx with hx | hx
      · exact hall x hx
      · have : x = l[k] := by simpa using hx
        subst this
        simpa using h3
  · have hkl : k = l.length := by omega
    subst hkl
    rw [List.take_length] at hall
    have hlh := hh.len_le
    have e1 : l.all okA = true := List.all_eq_true.2 hall
    have e2 : decide (1 ≤ l.length) = true := decide_eq_true (by omega)
    have e3 : decide (l.length ≤ 5) = true := decide_eq_true (by omega)
    have e4 : decide (h.length ≤ 4) = true := decide_eq_true (by omega)
    have hq : okQ h l = h.all (okH (varsB l)) := by simp only [okQ, e1, e2, e3, e4, Bool.true_and]
    rw [hq] at no ⊢
    refine ⟨_, g2.cell (boxc hw1 0 _ rfl), (hh.grow g02).ln ?_⟩
    refine ⟨fun t w' => ∃ k : Nat, t = k ∧ k ≤ h.length ∧ (∀ x ∈ h.take k, okH (varsB l) x = true) ∧ Grow w1 w', fun t _ => h.length - t.toNat, ⟨0, rfl, by omega, by simp, g2⟩, ?_⟩
    rintro - t w3 ⟨k, rfl, hk, hall2, g3⟩
    have g03 := g1.trans g3
    refine condD (fun hlt => ?_) (fun hge => ?_)
    · have hkl : k < h.length := by omega
      have bad : okH (varsB l) h[k] = false → h.all (okH (varsB l)) = false := fun hb => by
        rw [List.all_eq_false]
        exact ⟨h[k], List.getElem_mem hkl, by simpa using hb⟩
      refine (hh.grow g03).rd rfl hkl (condD (fun h4 => no g03 (bad ?_)) fun h4 => condD (fun h5 => no g03 (bad ?_)) fun h5 => ?_)
      · have : ¬ 0 ≤ h[k] := by omega
        simp [okH, this]
      · have : ¬ h[k] ≤ 7 := by omega
        simp [okH, this]
      · refine ⟨[_, _], rfl, two (g3.cell (boxc hw1 0 _ rfl)) (g3.cell (boxc hw1 1 _ rfl)), (refAll_c (hs.gr g03) hall).mono ?_⟩
        rintro e w4 ⟨rfl, g4⟩
        obtain ⟨n, hn⟩ : ∃ n : Nat, h[k] = (n : Int) := ⟨h[k].toNat, by omega⟩
        have key : okH (varsB l) h[k] = (varsB l).testBit n := by
          rw [hn] at h4 h5 ⊢
          unfold okH
          rw [decide_eq_true (show (0 : Int) ≤ n by omega), decide_eq_true (show (n : Int) ≤ 7 by omega), Int.toNat_natCast]; rfl
        rw [hn] at h4 h5 ⊢
        refine ⟨_, rfl, by omega, condD (fun h8 => no (g03.trans g4) (bad ?_)) fun h8 => ?_⟩
        · rw [key]; exact (bit_zero (by omega)).1 h8
        · rw [bit_zero (by omega)] at h8
          refine ⟨by unfold inR; omega, ⟨k + 1, by omega, by omega, fun x hx => ?_, g3.trans g4⟩, by dsimp only; omega⟩
          rw [List.take_succ_eq_append_getElem hkl] at hx
          rcases List.mem_append.1 hx with hx | hx
          · exact hall2 x hx
          · have : x = h[k] := by simpa using hx
            subst this
            rw [key]; simpa using h8
    · have hkl : k = h.length := by omega
      subst hkl
      rw [List.take_length] at hall2
      exact ⟨by rw [List.all_eq_true.2 hall2], g03⟩
end Go.Proofs.Ytddpjdlhgggbkaa
