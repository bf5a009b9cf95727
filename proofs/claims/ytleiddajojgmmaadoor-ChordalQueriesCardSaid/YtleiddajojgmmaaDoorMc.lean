/- Contracts: what a valid atom, query and fact is, by the program and by its reference. No condition. -/
import Derived.Test.YtleiddajojgmmaaDoorMa
namespace Go.Proofs.YtleiddajojgmmaaDoor
open Go Go.RowKit VC
set_option linter.unusedSimpArgs false
set_option linter.unusedVariables false

abbrev Atm := Int × List Int
/-! ## What is meant -/
def okT (x : Int) : Bool := decide (-9 ≤ x) && decide (x ≤ 7)
def okA (a : Atm) : Bool := decide (0 ≤ a.1) && decide (a.1 ≤ 5) && decide (1 ≤ a.2.length) && decide (a.2.length ≤ 3) && a.2.all okT
def varsL : List Int → Nat
  | [] => 0
  | x :: r => (if 0 ≤ x then 2 ^ x.toNat else 0) ||| varsL r
def varsB : List Atm → Nat
  | [] => 0
  | a :: r => varsL a.2 ||| varsB r
def okH (s : Nat) (x : Int) : Bool := decide (0 ≤ x) && decide (x ≤ 7) && s.testBit x.toNat
def okQ (h : List Int) (b : List Atm) : Bool := decide (1 ≤ b.length) && decide (b.length ≤ 5) && decide (h.length ≤ 4) && b.all okA && h.all (okH (varsB b))
theorem okT_iff {x : Int} : okT x = true ↔ -9 ≤ x ∧ x ≤ 7 := by simp [okT]
theorem okA_iff {a : Atm} : okA a = true ↔ 0 ≤ a.1 ∧ a.1 ≤ 5 ∧ 1 ≤ a.2.length ∧ a.2.length ≤ 3 ∧ ∀ x ∈ a.2, -9 ≤ x ∧ x ≤ 7 := by simp [okA, okT, and_assoc]
theorem varsL_app (l : List Int) (x : Int) : varsL (l ++ [x]) = varsL l ||| (if 0 ≤ x then 2 ^ x.toNat else 0) := by
  induction l with
  | nil => simp [varsL]
  | cons y r ih => rw [List.cons_append, varsL, ih, varsL, Nat.or_assoc]
theorem varsB_app (l : List Atm) (a : Atm) : varsB (l ++ [a]) = varsB l ||| varsL a.2 := by
  induction l with
  | nil => simp [varsB]
  | cons y r ih => rw [List.cons_append, varsB, ih, varsB, Nat.or_assoc]
theorem varsL_lt {l : List Int} (h : ∀ x ∈ l, -9 ≤ x ∧ x ≤ 7) : varsL l < 256 := by
  induction l with
  | nil => decide
  | cons x r ih =>
    have h1 := h x (List.mem_cons_self ..)
    have h2 := ih fun y hy => h y (List.mem_cons_of_mem _ hy)
    unfold varsL
    refine Nat.or_lt_two_pow (n := 8) ?_ h2
    split
    · exact Nat.pow_lt_pow_right (a := 2) (n := 8) (by omega) (by omega)
    · decide
theorem varsL_take {l : List Int} (h : ∀ x ∈ l, -9 ≤ x ∧ x ≤ 7) (k : Nat) : varsL (l.take k) < 256 := varsL_lt fun x hx => h x (List.mem_of_mem_take hx)
theorem varsB_lt {l : List Atm} (h : ∀ a ∈ l, okA a = true) : varsB l < 256 := by
  induction l with
  | nil => decide
  | cons a r ih => exact Nat.or_lt_two_pow (n := 8) (varsL_lt (okA_iff.1 (h a (List.mem_cons_self ..))).2.2.2.2) (ih fun y hy => h y (List.mem_cons_of_mem _ hy))
theorem varsB_take {l : List Atm} (h : ∀ x ∈ l, okA x = true) (k : Nat) : varsB (l.take k) < 256 := varsB_lt fun x hx => h x (List.mem_of_mem_take hx)
theorem bit_zero {s i : Nat} (h : i < 63) : (iAnd .i64 (iShr .i64 (s : Int) (i : Int)) 1 = 0) ↔ s.testBit i = false := by
  rw [iBit _ (by omega), ibit_nat]
  cases s.testBit i <;> simp
theorem app0 (a : Value) : (#[] ++ #[a] ++ #[] : Array Value) = #[a] := rfl
theorem app1 (a b : Value) : (#[] ++ #[a] ++ #[b] : Array Value) = #[a, b] := rfl
/-! ## Local copies -/
/-- An atom or fact is read into a variable of its own. -/
theorem SlX.loc {P : Program} {w : World} {v : Value} {l : List Atm} (h : SlA w v l) {i : Nat} {j : Int} (hj : j = (i : Int)) (hi : i < l.length) {zs : Array Value} (hz : zs.size = 2) {t : TypeId} {K : World → Prop}
    (hk : ∀ w2 u, Grow w w2 → w.heap.size < w2.heap.size → SlI w2 u l[i].2 → w2.cell? (Addr.add ⟨w.heap.size, 0, none⟩ 0) = some (.int .i64 l[i].1) → w2.cell? (Addr.add ⟨w.heap.size, 0, none⟩ 1) = some u → K w2) :
    ∃ (a : Addr) (m c : Nat), v = .slice (some a) m c ∧ ((0 : Int) ≤ j ∧ j < (m : Int)) ∧ ∃ cs : List Value, cs.length = 2 ∧ (∀ t u, cs[t]? = some u → w.cell? (Addr.add (a.add (Int.toNat j * 2)) t) = some u) ∧
      ∀ w1, w1 = w.alloc (.cells zs t) → ∃ cs' : Array Value, (Value.agg cs.toArray) = Value.agg cs' ∧ cs'.size = 2 ∧ ∃ w2 : World, (storeCells ⟨w.heap.size, 0, none⟩ cs'.toList).run P w1 = .ok () w2 ∧ K w2 := by
  refine SlX.rd h hj hi fun cs hl hr w1 hw1 => ?_
  obtain ⟨u, rfl, hu⟩ := hr
  have := setR (P := P) (cs := [.int .i64 l[i].1, u]) hw1 (by rw [hz]; rfl) (by
    intro y hy
    simp at hy
    rcases hy with rfl | rfl
    · rfl
    · exact hu.one.2) (K := K) fun w2 hg hs hc => hk w2 u hg hs (hu.grow hg) (hc 0 _ rfl) (hc 1 _ rfl)
  rw [hz] at this
  exact this
/-! ## The program -/
theorem atomVars_c {w : World} {r : Int} {v : Value} {xs : List Int} (hs : SlI w v xs) (hx : ∀ x ∈ xs, -9 ≤ x ∧ x ≤ 7) : Calls Tryd.prog 44 #[.agg #[.int .i64 r, v]] w (Ret w (.int .i64 (varsL xs : Nat))) := by
  refine f44_calls _ ?_
  refine ⟨_, rfl, fun w1 hw1 => ?_⟩
  have g1 := alloc_grow hw1
  have hle := hs.len_le
  have hb := varsL_take hx
  refine ⟨_, boxc hw1 1 _ rfl, (hs.grow g1).ln ?_⟩
  refine ⟨fun set t w' => ∃ k : Nat, t = k ∧ k ≤ xs.length ∧ set = ((varsL (xs.take k) : Nat) : Int) ∧ Grow w w', fun _ t _ => xs.length - t.toNat, ⟨0, rfl, by omega, rfl, g1⟩, ?_⟩
  rintro - - t w2 ⟨k, rfl, hk, rfl, g2⟩
  refine condD (fun hlt => ?_) (fun hge => ?_)
  · have hkl : k < xs.length := by omega
    have hxk := hx _ (List.getElem_mem hkl)
    have ht := List.take_succ_eq_append_getElem hkl
    have hb1 := hb k
    refine (hs.grow g2).rd rfl hkl (condD (fun h0 => ?_) fun h0 => ?_)
    · obtain ⟨n, hn⟩ : ∃ n : Nat, xs[k] = (n : Int) := ⟨xs[k].toNat, by omega⟩
      have h2 : 2 ^ n < 256 := Nat.pow_lt_pow_right (a := 2) (n := 8) (by omega) (by omega)
      refine ⟨by omega, by unfold inR; omega, ⟨k + 1, by omega, by omega, ?_, g2⟩, by dsimp only; omega⟩
      rw [ht, varsL_app, if_pos h0, hn, iShl_one (by omega), iOr_nat (by omega) (by omega), Int.toNat_natCast]
    · refine ⟨by unfold inR; omega, ⟨k + 1, by omega, by omega, ?_, g2⟩, by dsimp only; omega⟩
      rw [ht, varsL_app, if_neg h0, Nat.or_zero]
  · have hkl : k = xs.length := by omega
    subst hkl
    exact ⟨by rw [List.take_length], g2⟩
theorem argBad_c {x : Int} {w : World} : Calls Tryd.prog 64 #[.int .i64 x] w (Ret w (.bool (!okT x))) := by
  refine f64_calls _ ?_
  refine condD (fun h => ⟨?_, Grow.refl w⟩) fun h => ⟨?_, Grow.refl w⟩
  · have : okT x = false := by simp [okT]; omega
    rw [this]; rfl
  · congr 2
    rw [Bool.eq_iff_iff]; simp [okT]; omega
theorem atomValid_c {w : World} {r : Int} {v : Value} {xs : List Int} (hs : SlI w v xs) : Calls Tryd.prog 39 #[.agg #[.int .i64 r, v]] w (Ret w (.bool (okA (r, xs)))) := by
  refine f39_calls _ ?_
  refine ⟨_, rfl, fun w1 hw1 => ?_⟩
  have g1 := alloc_grow hw1
  have no : okA (r, xs) = false → Ret w (.bool (okA (r, xs))) (.returned (.bool false)) w1 := fun h => ⟨by rw [h], g1⟩
  refine ⟨_, boxc hw1 0 _ rfl, condD (fun h0 => ?_) fun h0 => no (by simp [okA]; omega)⟩
  refine ⟨_, boxc hw1 0 _ rfl, condD (fun h1 => ?_) fun h1 => no (by simp [okA]; omega)⟩
  refine ⟨_, boxc hw1 1 _ rfl, (hs.grow g1).ln (condD (fun h2 => ?_) fun h2 => no ?_)⟩
  · refine ⟨_, boxc hw1 1 _ rfl, (hs.grow g1).ln (condD (fun h3 => ?_) fun h3 => no ?_)⟩
    · refine ⟨_, boxc hw1 1 _ rfl, (containsFunc_c (p := fun x => !okT x) (hs.grow g1) ⟨_, _, _, rfl, by kernel_rfl, fun x _ w' _ => by rw [app0]; exact argBad_c⟩).mono ?_⟩
      rintro e w2 ⟨rfl, g2⟩
      refine ⟨_, rfl, ?_, g1.trans g2⟩
      congr 2
      rw [Bool.eq_iff_iff]
      simp [okA]
      omega
    · have : ¬ xs.length ≤ 3 := by omega
      simp [okA, this]
  · have : ¬ 1 ≤ xs.length := by omega
    simp [okA]; omega
/-- The function value f answers p a, at each a of l, in every world that has come of w. -/
def AsksA (w : World) (f : Value) (l : List Atm) (p : Atm → Bool) : Prop :=
  ∃ g fst cap, f = .func (.func g) fst cap ∧ callOK g = true ∧ ∀ a ∈ l, ∀ w' u, Grow w w' → SlI w' u a.2 → Calls Tryd.prog g (fst ++ #[.agg #[.int .i64 a.1, u]] ++ cap) w' (Ret w' (.bool (p a)))
theorem indexAtom_c {w : World} {v f : Value} {l : List Atm} {p : Atm → Bool} (hs : SlA w v l) (hf : AsksA w f l p) : Calls Tryd.prog 63 #[v, f] w (Ret w (.int .i64 (idxOf p l))) := by
  refine f63_calls _ _ ?_
  obtain ⟨g, fst, cap, rfl, hg, hcall⟩ := hf
  have hle := SlX.len_le hs
  refine SlX.ln hs ⟨fun t w' => ∃ k : Nat, t = k ∧ k ≤ l.length ∧ Grow w w' ∧ ∀ j (hj : j < l.length), j < k → p l[j] = false, fun t _ => l.length - t.toNat, ⟨0, rfl, by omega, Grow.refl w, fun j _ h => by omega⟩, ?_⟩
  rintro - t w1 ⟨k, rfl, hk, hw, hno⟩
  refine condD (fun hlt => ?_) (fun hge => ?_)
  · have hkl : k < l.length := by omega
    refine SlX.rd (hs.gr hw) rfl hkl ?_
    rintro cs - ⟨u, rfl, hu⟩
    refine ⟨g, fst, cap, rfl, hg, ?_⟩
    refine (hcall l[k] (List.getElem_mem hkl) w1 u hw hu).mono ?_
    rintro e w2 ⟨rfl, hg2⟩
    refine ⟨_, rfl, condP_i (fun hp => ?_) (fun hp => ?_)⟩
    · exact ⟨by rw [idxOf_some hkl hp hno], hw.trans hg2⟩
    · refine ⟨by unfold inR; omega, ⟨k + 1, by omega, by omega, hw.trans hg2, fun j hj hjk => ?_⟩, by dsimp only; omega⟩
      by_cases e : j = k
      · subst e; exact hp
      · exact hno j hj (by omega)
  · exact ⟨by rw [idxOf_none fun j hj => hno j hj (by omega)], hw⟩
theorem containsAtom_c {w : World} {v f : Value} {l : List Atm} {p : Atm → Bool} (hs : SlA w v l) (hf : AsksA w f l p) : Calls Tryd.prog 37 #[v, f] w (Ret w (.bool (l.any p))) := by
  refine f37_calls _ _ ?_
  refine (indexAtom_c hs hf).mono ?_
  rintro e w' ⟨rfl, hg⟩
  refine ⟨_, rfl, ?_, hg⟩
  rw [idxOf_any]
theorem queryVars_c {w : World} {hv v : Value} {l : List Atm} (hs : SlA w v l) (hl : ∀ a ∈ l, okA a = true) : Calls Tryd.prog 40 #[.agg #[hv, v]] w (Ret w (.int .i64 (varsB l : Nat))) := by
  refine f40_calls _ ?_
  refine ⟨_, rfl, fun w1 hw1 => ?_⟩
  have g1 := alloc_grow hw1
  have hle := SlX.len_le hs
  refine ⟨_, boxc hw1 1 _ rfl, SlX.ln (hs.gr g1) ?_⟩
  refine ⟨fun set t w' => ∃ k : Nat, t = k ∧ k ≤ l.length ∧ set = ((varsB (l.take k) : Nat) : Int) ∧ Grow w w', fun _ t _ => l.length - t.toNat, ⟨0, rfl, by omega, rfl, g1⟩, ?_⟩
  rintro - - t w2 ⟨k, rfl, hk, rfl, g2⟩
  refine condD (fun hlt => ?_) (fun hge => ?_)
  · have hkl : k < l.length := by omega
    have hx := (okA_iff.1 (hl _ (List.getElem_mem hkl))).2.2.2.2
    refine SlX.loc (hs.gr g2) rfl hkl rfl fun w3 u g3 _ hu c0 c1 => ?_
    refine ⟨[_, _], rfl, two c0 c1, (atomVars_c hu hx).mono ?_⟩
    rintro e w4 ⟨rfl, g4⟩
    have h1 := varsB_take hl k
    have h2 := varsL_lt hx
    refine ⟨_, rfl, by unfold inR; omega, ⟨k + 1, by omega, by omega, ?_, (g2.trans g3).trans g4⟩, by dsimp only; omega⟩
    rw [List.take_succ_eq_append_getElem hkl, varsB_app, iOr_nat (by omega) (by omega)]
  · have hkl : k = l.length := by omega
    subst hkl
    exact ⟨by rw [List.take_length], g2⟩
theorem badAtom_c {w : World} {r : Int} {v : Value} {xs : List Int} (hs : SlI w v xs) : Calls Tryd.prog 38 #[.agg #[.int .i64 r, v]] w (Ret w (.bool (!okA (r, xs)))) := by
  refine f38_calls _ ?_
  refine ⟨_, rfl, fun w1 hw1 => ?_⟩
  have g1 := alloc_grow hw1
  refine ⟨[_, _], rfl, two (boxc hw1 0 _ rfl) (boxc hw1 1 _ rfl), (atomValid_c (hs.grow g1)).mono ?_⟩
  rintro e w2 ⟨rfl, g2⟩
  exact ⟨_, rfl, rfl, g1.trans g2⟩
theorem headBad_c {x : Int} {s : Nat} {a : Addr} {w : World} (hc : w.cell? a = some (.int .i64 (s : Int))) : Calls Tryd.prog 42 #[.int .i64 x, .pointer (some a)] w (Ret w (.bool (!okH s x))) := by
  refine f42_calls _ _ ?_
  refine condD (fun h => ⟨?_, Grow.refl w⟩) fun h => condD (fun h2 => ⟨?_, Grow.refl w⟩) fun h2 => ⟨_, hc, by omega, ?_, Grow.refl w⟩
  · have : okH s x = false := by
      have : ¬ 0 ≤ x := by omega
      simp [okH, this]
    rw [this]; rfl
  · have : okH s x = false := by
      have : ¬ x ≤ 7 := by omega
      simp [okH, this]
    rw [this]; rfl
  · obtain ⟨n, rfl⟩ : ∃ n : Nat, x = (n : Int) := ⟨x.toNat, by omega⟩
    congr 2
    rw [Bool.eq_iff_iff, decide_eq_true_iff, bit_zero (by omega)]
    have h3 : (n : Int) ≤ 7 := by omega
    simp [okH]
    intro _; omega
/-- The program's test of a query. -/
theorem valid_c {w : World} {hv v : Value} {h : List Int} {l : List Atm} (hh : SlI w hv h) (hs : SlA w v l) : Calls Tryd.prog 25 #[.agg #[hv, v]] w (Ret w (.bool (okQ h l))) := by
  refine f25_calls _ ?_
  refine ⟨_, rfl, fun w1 hw1 => ?_⟩
  have g1 := alloc_grow hw1
  have no : ∀ {w'}, Grow w w' → okQ h l = false → Ret w (.bool (okQ h l)) (.returned (.bool false)) w' := fun g h => ⟨by rw [h], g⟩
  refine ⟨_, boxc hw1 1 _ rfl, SlX.ln (hs.gr g1) (condD (fun h0 => no g1 ?_) fun h0 => ?_)⟩
  · have : ¬ 1 ≤ l.length := by omega
    simp only [okQ, decide_eq_false this, Bool.false_and]
  refine ⟨_, boxc hw1 1 _ rfl, SlX.ln (hs.gr g1) (condD (fun h1 => no g1 ?_) fun h1 => ?_)⟩
  · have : ¬ l.length ≤ 5 := by omega
    simp only [okQ, decide_eq_false this, Bool.false_and, Bool.and_false]
  refine ⟨_, boxc hw1 0 _ rfl, (hh.grow g1).ln (condD (fun h2 => no g1 ?_) fun h2 => ?_)⟩
  · have : ¬ h.length ≤ 4 := by omega
    simp only [okQ, decide_eq_false this, Bool.false_and, Bool.and_false]
  refine ⟨_, boxc hw1 1 _ rfl, (containsAtom_c (p := fun a => !okA a) (hs.gr g1) ⟨_, _, _, rfl, by kernel_rfl, fun a _ w' u _ hu => by rw [app0]; exact badAtom_c hu⟩).mono ?_⟩
  rintro e w2 ⟨rfl, g2⟩
  have g02 := g1.trans g2
  refine ⟨_, rfl, condP_i (fun h3 => no g02 ?_) fun h3 => ?_⟩
  · have : l.all okA = false := by
      rw [List.all_eq_false]
      obtain ⟨a, ha, hb⟩ := List.any_eq_true.1 h3
      exact ⟨a, ha, by simpa using hb⟩
    simp only [okQ, this, Bool.false_and, Bool.and_false]
  · have hl : ∀ a ∈ l, okA a = true := fun a ha => by
      have := List.any_eq_false.1 h3 a ha
      simpa using this
    refine ⟨[_, _], rfl, two (g2.cell (boxc hw1 0 _ rfl)) (g2.cell (boxc hw1 1 _ rfl)), (queryVars_c (hs.gr g02) hl).mono ?_⟩
    rintro e w3 ⟨rfl, g3⟩
    have g03 := g02.trans g3
    refine ⟨_, rfl, fun w4 hw4 => ?_⟩
    have g4 := alloc_grow hw4
    have hb4 := Box.new hw4
    refine ⟨⟨_, hb4.cell⟩, hb4.free, fun w5 hw5 => ?_⟩
    have hb5 := hb4.set hw5
    have g35 : Grow w3 w5 := g4.fr (set_fr hw5) fun i hi e => by
      have : i = w3.heap.size := e
      omega
    have g05 := g03.trans g35
    refine ⟨_, (g2.trans (g3.trans g35)).cell (boxc hw1 0 _ rfl), (containsFunc_c (p := fun x => !okH (varsB l) x) (hh.grow g05) ⟨_, _, _, rfl, by kernel_rfl, fun x _ w' hg => by rw [app1]; exact headBad_c (x := x) (hg.cell hb5.cell)⟩).mono ?_⟩
    rintro e w6 ⟨rfl, g6⟩
    refine ⟨_, rfl, ?_, g05.trans g6⟩
    congr 2
    have e1 : l.all okA = true := List.all_eq_true.2 hl
    have e2 : decide (1 ≤ l.length) = true := decide_eq_true (by omega)
    have e3 : decide (l.length ≤ 5) = true := decide_eq_true (by omega)
    have e4 : decide (h.length ≤ 4) = true := decide_eq_true (by omega)
    simp only [okQ, e1, e2, e3, e4, Bool.true_and]
    rw [← Bool.not_not (h.all _), List.not_all_eq_any_not]
end Go.Proofs.YtleiddajojgmmaaDoor

/- Contracts: valid facts by the program; valid atoms, queries and facts by the reference. No condition. -/
namespace Go.Proofs.YtleiddajojgmmaaDoor
open Go Go.RowKit VC
set_option linter.unusedSimpArgs false
set_option linter.unusedVariables false

/-! ## The reference -/
theorem refTerm_c {x : Int} {w : World} : Calls Tryd.prog 46 #[.int .i64 x] w (Ret w (.bool (okT x))) := by
  refine f46_calls _ ?_
  refine condD (fun h => ⟨?_, Grow.refl w⟩) fun h => ⟨?_, Grow.refl w⟩
  · have : decide (-9 ≤ x) = true := decide_eq_true h
    simp only [okT, this, Bool.true_and]
  · have : decide (-9 ≤ x) = false := decide_eq_false h
    simp only [okT, this, Bool.false_and]
theorem refRight_c {w : World} {r : Int} {v : Value} {xs : List Int} (hs : SlI w v xs) : Calls Tryd.prog 27 #[.agg #[.int .i64 r, v]] w (Ret w (.bool (okA (r, xs)))) := by
  refine f27_calls _ ?_
  refine ⟨_, rfl, fun w1 hw1 => ?_⟩
  have g1 := alloc_grow hw1
  have hle := hs.len_le
  have no : ∀ {w'}, Grow w w' → ¬ okA (r, xs) = true → Ret w (.bool (okA (r, xs))) (.returned (.bool false)) w' := fun g h => ⟨by rw [Bool.not_eq_true] at h; rw [h], g⟩
  refine ⟨_, boxc hw1 1 _ rfl, (hs.grow g1).ln ?_⟩
  refine ⟨fun t w' => ∃ k : Nat, t = k ∧ k ≤ xs.length ∧ (∀ x ∈ xs.take k, -9 ≤ x ∧ x ≤ 7) ∧ Grow w1 w', fun t _ => xs.length - t.toNat, ⟨0, rfl, by omega, by simp, Grow.refl w1⟩, ?_⟩
  rintro - t w2 ⟨k, rfl, hk, hall, g2⟩
  have g02 := g1.trans g2
  refine condD (fun hlt => ?_) (fun hge => ?_)
  · have hkl : k < xs.length := by omega
    refine (hs.grow g02).rd rfl hkl (refTerm_c.mono ?_)
    rintro e w3 ⟨rfl, g3⟩
    refine ⟨_, rfl, condP_i (fun h => no (g02.trans g3) ?_) fun h => ?_⟩
    · rw [okA_iff]
      rintro ⟨-, -, -, -, h'⟩
      have := okT_iff.2 (h' _ (List.getElem_mem hkl))
      rw [this] at h; cases h
    · refine ⟨by unfold inR; omega, ⟨k + 1, by omega, by omega, fun x hx => ?_, g2.trans g3⟩, by dsimp only; omega⟩
      rw [List.take_succ_eq_append_getElem hkl] at hx
      rcases List.mem_append.1 hx with hx | hx
      · exact hall x hx
      · have : x = xs[k] := by simpa using hx
        subst this
        exact okT_iff.1 (by simpa using h)
  · have hkl : k = xs.length := by omega
    subst hkl
    rw [List.take_length] at hall
    refine ⟨_, g2.cell (boxc hw1 0 _ rfl), condD (fun h0 => ?_) fun h0 => no g02 (by rw [okA_iff]; dsimp only; omega)⟩
    refine ⟨_, g2.cell (boxc hw1 0 _ rfl), condD (fun h1 => ?_) fun h1 => no g02 (by rw [okA_iff]; dsimp only; omega)⟩
    refine ⟨_, g2.cell (boxc hw1 1 _ rfl), (hs.grow g02).ln (condD (fun h2 => ?_) fun h2 => no g02 (by rw [okA_iff]; dsimp only; omega))⟩
    refine ⟨_, g2.cell (boxc hw1 1 _ rfl), (hs.grow g02).ln ⟨?_, g02⟩⟩
    congr 2
    rw [Bool.eq_iff_iff, decide_eq_true_iff, okA_iff]
    constructor
    · intro h
      exact ⟨by dsimp only; omega, by dsimp only; omega, by dsimp only; omega, by dsimp only; omega, hall⟩
    · rintro ⟨-, -, -, h, -⟩
      dsimp only at h; omega
theorem refVars_c {w : World} {r : Int} {v : Value} {xs : List Int} (hs : SlI w v xs) (hx : ∀ x ∈ xs, -9 ≤ x ∧ x ≤ 7) : Calls Tryd.prog 13 #[.agg #[.int .i64 r, v]] w (Ret w (.int .i64 (varsL xs : Nat))) := by
  refine f13_calls _ ?_
  refine ⟨_, rfl, fun w1 hw1 => ?_⟩
  have g1 := alloc_grow hw1
  have hle := hs.len_le
  have hb := varsL_take hx
  refine ⟨_, boxc hw1 1 _ rfl, (hs.grow g1).ln ?_⟩
  refine ⟨fun set t w' => ∃ k : Nat, t = k ∧ k ≤ xs.length ∧ set = ((varsL (xs.take k) : Nat) : Int) ∧ Grow w w', fun _ t _ => xs.length - t.toNat, ⟨0, rfl, by omega, rfl, g1⟩, ?_⟩
  rintro - - t w2 ⟨k, rfl, hk, rfl, g2⟩
  refine condD (fun hlt => ?_) (fun hge => ?_)
  · have hkl : k < xs.length := by omega
    have hxk := hx _ (List.getElem_mem hkl)
    have ht := List.take_succ_eq_append_getElem hkl
    have hb1 := hb k
    refine (hs.grow g2).rd rfl hkl (condD (fun h0 => ?_) fun h0 => ?_)
    · obtain ⟨n, hn⟩ : ∃ n : Nat, xs[k] = (n : Int) := ⟨xs[k].toNat, by omega⟩
      have h2 : 2 ^ n < 256 := Nat.pow_lt_pow_right (a := 2) (n := 8) (by omega) (by omega)
      refine ⟨by omega, by unfold inR; omega, ⟨k + 1, by omega, by omega, ?_, g2⟩, by dsimp only; omega⟩
      rw [ht, varsL_app, if_pos h0, hn, iShl_one (by omega), iOr_nat (by omega) (by omega), Int.toNat_natCast]
    · refine ⟨by unfold inR; omega, ⟨k + 1, by omega, by omega, ?_, g2⟩, by dsimp only; omega⟩
      rw [ht, varsL_app, if_neg h0, Nat.or_zero]
  · have hkl : k = xs.length := by omega
    subst hkl
    exact ⟨by rw [List.take_length], g2⟩
theorem refAll_c {w : World} {hv v : Value} {l : List Atm} (hs : SlA w v l) (hl : ∀ a ∈ l, okA a = true) : Calls Tryd.prog 12 #[.agg #[hv, v]] w (Ret w (.int .i64 (varsB l : Nat))) := by
  refine f12_calls _ ?_
  refine ⟨_, rfl, fun w1 hw1 => ?_⟩
  have g1 := alloc_grow hw1
  have hle := SlX.len_le hs
  refine ⟨_, boxc hw1 1 _ rfl, SlX.ln (hs.gr g1) ?_⟩
  refine ⟨fun set t w' => ∃ k : Nat, t = k ∧ k ≤ l.length ∧ set = ((varsB (l.take k) : Nat) : Int) ∧ Grow w w', fun _ t _ => l.length - t.toNat, ⟨0, rfl, by omega, rfl, g1⟩, ?_⟩
  rintro - - t w2 ⟨k, rfl, hk, rfl, g2⟩
  refine condD (fun hlt => ?_) (fun hge => ?_)
  · have hkl : k < l.length := by omega
    have hx := (okA_iff.1 (hl _ (List.getElem_mem hkl))).2.2.2.2
    refine SlX.loc (hs.gr g2) rfl hkl rfl fun w3 u g3 _ hu c0 c1 => ?_
    refine ⟨[_, _], rfl, two c0 c1, (refVars_c hu hx).mono ?_⟩
    rintro e w4 ⟨rfl, g4⟩
    have h1 := varsB_take hl k
    have h2 := varsL_lt hx
    refine ⟨_, rfl, by unfold inR; omega, ⟨k + 1, by omega, by omega, ?_, (g2.trans g3).trans g4⟩, by dsimp only; omega⟩
    rw [List.take_succ_eq_append_getElem hkl, varsB_app, iOr_nat (by omega) (by omega)]
  · have hkl : k = l.length := by omega
    subst hkl
    exact ⟨by rw [List.take_length], g2⟩
/-- The reference's test of a query. -/
theorem refValid_c {w : World} {hv v : Value} {h : List Int} {l : List Atm} (hh : SlI w hv h) (hs : SlA w v l) : Calls Tryd.prog 11 #[.agg #[hv, v]] w (Ret w (.bool (okQ h l))) := by
  refine f11_calls _ ?_
  refine ⟨_, rfl, fun w1 hw1 => ?_⟩
  have g1 := alloc_grow hw1
  have no : ∀ {w'}, Grow w w' → okQ h l = false → Ret w (.bool (okQ h l)) (.returned (.bool false)) w' := fun g h => ⟨by rw [h], g⟩
  refine ⟨_, boxc hw1 1 _ rfl, SlX.ln (hs.gr g1) (condD (fun h0 => no g1 ?_) fun h0 => ?_)⟩
  · have : ¬ 1 ≤ l.length := by omega
    simp only [okQ, decide_eq_false this, Bool.false_and]
  refine ⟨_, boxc hw1 1 _ rfl, SlX.ln (hs.gr g1) (condD (fun h1 => no g1 ?_) fun h1 => ?_)⟩
  · have : ¬ l.length ≤ 5 := by omega
    simp only [okQ, decide_eq_false this, Bool.false_and, Bool.and_false]
  refine ⟨_, boxc hw1 0 _ rfl, (hh.grow g1).ln (condD (fun h2 => no g1 ?_) fun h2 => ?_)⟩
  · have : ¬ h.length ≤ 4 := by omega
    simp only [okQ, decide_eq_false this, Bool.false_and, Bool.and_false]
  refine ⟨_, boxc hw1 1 _ rfl, SlX.ln (hs.gr g1) ?_⟩
  refine ⟨fun t w' => ∃ k : Nat, t = k ∧ k ≤ l.length ∧ (∀ a ∈ l.take k, okA a = true) ∧ Grow w1 w', fun t _ => l.length - t.toNat, ⟨0, rfl, by omega, by simp, Grow.refl w1⟩, ?_⟩
  rintro - t w2 ⟨k, rfl, hk, hall, g2⟩
  have g02 := g1.trans g2
  refine condD (fun hlt => ?_) (fun hge => ?_)
  · have hkl : k < l.length := by omega
    refine SlX.loc (hs.gr g02) rfl hkl rfl fun w3 u g3 _ hu c0 c1 => ?_
    refine ⟨[_, _], rfl, two c0 c1, (refRight_c hu).mono ?_⟩
    rintro e w4 ⟨rfl, g4⟩
    have g24 := g3.trans g4
    refine ⟨_, rfl, condP_i (fun h3 => no (g02.trans g24) ?_) fun h3 => ?_⟩
    · have : l.all okA = false := by
        rw [List.all_eq_false]
        exact ⟨l[k], List.getElem_mem hkl, by simpa using h3⟩
      simp only [okQ, this, Bool.false_and, Bool.and_false]
    · refine ⟨by unfold inR; omega, ⟨k + 1, by omega, by omega, fun x hx => ?_, g2.trans g24⟩, by dsimp only; omega⟩
      rw [List.take_succ_eq_append_getElem hkl] at hx
      rcases List.mem_append.1 hx with hx | hx
      · exact hall x hx
      · have : x = l[k] := by simpa using hx
        subst this
        simpa using h3
  · have hkl : k = l.length := by omega
    subst hkl
    rw [List.take_length] at hall
    have hlh := hh.len_le
    have e1 : l.all okA = true := List.all_eq_true.2 hall
    have e2 : decide (1 ≤ l.length) = true := decide_eq_true (by omega)
    have e3 : decide (l.length ≤ 5) = true := decide_eq_true (by omega)
    have e4 : decide (h.length ≤ 4) = true := decide_eq_true (by omega)
    have hq : okQ h l = h.all (okH (varsB l)) := by simp only [okQ, e1, e2, e3, e4, Bool.true_and]
    rw [hq] at no ⊢
    refine ⟨_, g2.cell (boxc hw1 0 _ rfl), (hh.grow g02).ln ?_⟩
    refine ⟨fun t w' => ∃ k : Nat, t = k ∧ k ≤ h.length ∧ (∀ x ∈ h.take k, okH (varsB l) x = true) ∧ Grow w1 w', fun t _ => h.length - t.toNat, ⟨0, rfl, by omega, by simp, g2⟩, ?_⟩
    rintro - t w3 ⟨k, rfl, hk, hall2, g3⟩
    have g03 := g1.trans g3
    refine condD (fun hlt => ?_) (fun hge => ?_)
    · have hkl : k < h.length := by omega
      have bad : okH (varsB l) h[k] = false → h.all (okH (varsB l)) = false := fun hb => by
        rw [List.all_eq_false]
        exact ⟨h[k], List.getElem_mem hkl, by simpa using hb⟩
      refine (hh.grow g03).rd rfl hkl (condD (fun h4 => no g03 (bad ?_)) fun h4 => condD (fun h5 => no g03 (bad ?_)) fun h5 => ?_)
      · have : ¬ 0 ≤ h[k] := by omega
        simp [okH, this]
      · have : ¬ h[k] ≤ 7 := by omega
        simp [okH, this]
      · refine ⟨[_, _], rfl, two (g3.cell (boxc hw1 0 _ rfl)) (g3.cell (boxc hw1 1 _ rfl)), (refAll_c (hs.gr g03) hall).mono ?_⟩
        rintro e w4 ⟨rfl, g4⟩
        obtain ⟨n, hn⟩ : ∃ n : Nat, h[k] = (n : Int) := ⟨h[k].toNat, by omega⟩
        have key : okH (varsB l) h[k] = (varsB l).testBit n := by
          rw [hn] at h4 h5 ⊢
          unfold okH
          rw [decide_eq_true (show (0 : Int) ≤ n by omega), decide_eq_true (show (n : Int) ≤ 7 by omega), Int.toNat_natCast]; rfl
        rw [hn] at h4 h5 ⊢
        refine ⟨_, rfl, by omega, condD (fun h8 => no (g03.trans g4) (bad ?_)) fun h8 => ?_⟩
        · rw [key]; exact (bit_zero (by omega)).1 h8
        · rw [bit_zero (by omega)] at h8
          refine ⟨by unfold inR; omega, ⟨k + 1, by omega, by omega, fun x hx => ?_, g3.trans g4⟩, by dsimp only; omega⟩
          rw [List.take_succ_eq_append_getElem hkl] at hx
          rcases List.mem_append.1 hx with hx | hx
          · exact hall2 x hx
          · have : x = h[k] := by simpa using hx
            subst this
            rw [key]; simpa using h8
    · have hkl : k = h.length := by omega
      subst hkl
      rw [List.take_length] at hall2
      exact ⟨by rw [List.all_eq_true.2 hall2], g03⟩
end Go.Proofs.YtleiddajojgmmaaDoor
