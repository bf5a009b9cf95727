/- Contracts of leaves: slices of ints (search, clone, equal, compare, least, greatest), atoms and facts, and how they lie in memory. No condition. -/
import Derived.Test.YtleiddajojgmmaaGs
import Derived.Test.YtleiddajojgmmaaVr
namespace Go.Proofs.Ytleiddajojgmmaa
open Go Go.RowKit VC
set_option linter.unusedSimpArgs false
set_option linter.unusedVariables false

/-- It returns v, and nothing that was there has turned. -/
def Ret (w : World) (v : Value) : Ending → World → Prop := fun e w' => e = .returned v ∧ Grow w w'
theorem el_int : ElT Try.prog 22 3 1 8 (.int .i64 0) := ⟨by kernel_rfl, ⟨Try.t3, by kernel_rfl, by kernel_rfl, by kernel_rfl, by kernel_rfl⟩, rfl⟩
abbrev OwnI (w : World) (B : Nat) (v : Value) (xs : List Int) : Prop := Own w B 3 1 v xs.length (xs.map encI)
/-- A record that was boxed. -/
theorem boxc {w w1 : World} {cs : Array Value} {t : TypeId} (hw : w1 = w.alloc (.cells cs t)) (j : Nat) (v : Value) (h : cs[j]? = some v) : w1.cell? (Addr.add ⟨w.heap.size, 0, none⟩ j) = some v := by
  rw [Addr.add0, alloc_cell hw]; exact h
/-! ## Ints -/
def Asks (w : World) (f : Value) (xs : List Int) (p : Int → Bool) : Prop :=
  ∃ g fst cap, f = .func (.func g) fst cap ∧ callOK g = true ∧ ∀ x ∈ xs, ∀ w', Grow w w' → Calls Try.prog g (fst ++ #[.int .i64 x] ++ cap) w' (Ret w' (.bool (p x)))
def idxOf {α : Type} (p : α → Bool) (xs : List α) : Int := match xs.findIdx? p with | some i => i | none => -1
theorem idxOf_any {α : Type} (p : α → Bool) (xs : List α) : decide (0 ≤ idxOf p xs) = xs.any p := by
  unfold idxOf
  cases h : xs.findIdx? p with
  | none =>
    have := List.findIdx?_eq_none_iff.1 h
    have : xs.any p = false := List.any_eq_false.2 fun x hx => by simp [this x hx]
    simp [this]
  | some i =>
    obtain ⟨hi, hp, _⟩ := List.findIdx?_eq_some_iff_getElem.1 h
    have : xs.any p = true := List.any_eq_true.2 ⟨xs[i], List.getElem_mem hi, hp⟩
    simp [this]
theorem idxOf_some {α : Type} {p : α → Bool} {xs : List α} {k : Nat} (hk : k < xs.length) (hp : p xs[k] = true) (hno : ∀ j (hj : j < xs.length), j < k → p xs[j] = false) : idxOf p xs = (k : Int) := by
  have : xs.findIdx? p = some k := List.findIdx?_eq_some_iff_getElem.2 ⟨hk, hp, fun j hj => by simpa using hno j (by omega) hj⟩
  rw [idxOf, this]
theorem idxOf_none {α : Type} {p : α → Bool} {xs : List α} (hno : ∀ j (hj : j < xs.length), p xs[j] = false) : idxOf p xs = -1 := by
  have : xs.findIdx? p = none := List.findIdx?_eq_none_iff.2 fun x hx => by
    obtain ⟨j, hj, rfl⟩ := List.mem_iff_getElem.1 hx
    exact hno j hj
  rw [idxOf, this]
theorem indexFunc_c {w : World} {v f : Value} {xs : List Int} {p : Int → Bool} (hs : SlI w v xs) (hf : Asks w f xs p) : Calls Try.prog 101 #[v, f] w (Ret w (.int .i64 (idxOf p xs))) := by
  refine f101_calls _ _ ?_
  obtain ⟨g, fst, cap, rfl, hg, hcall⟩ := hf
  have hle := hs.len_le
  refine hs.ln ⟨fun t w' => ∃ k : Nat, t = k ∧ k ≤ xs.length ∧ Grow w w' ∧ ∀ j (hj : j < xs.length), j < k → p xs[j] = false, fun t _ => xs.length - t.toNat, ⟨0, rfl, by omega, Grow.refl w, fun j _ h => by omega⟩, ?_⟩
  rintro - t w1 ⟨k, rfl, hk, hw, hno⟩
  refine condD (fun hlt => ?_) (fun hge => ?_)
  · have hkl : k < xs.length := by omega
    refine (hs.grow hw).rd rfl hkl ⟨g, fst, cap, rfl, hg, ?_⟩
    refine (hcall xs[k] (List.getElem_mem hkl) w1 hw).mono ?_
    rintro e w2 ⟨rfl, hg2⟩
    refine ⟨_, rfl, condP_i (fun hp => ?_) (fun hp => ?_)⟩
    · exact ⟨by rw [idxOf_some hkl hp hno], hw.trans hg2⟩
    · refine ⟨by unfold inR; omega, ⟨k + 1, by omega, by omega, hw.trans hg2, fun j hj hjk => ?_⟩, by dsimp only; omega⟩
      by_cases e : j = k
      · subst e; exact hp
      · exact hno j hj (by omega)
  · exact ⟨by rw [idxOf_none fun j hj => hno j hj (by omega)], hw⟩
theorem containsFunc_c {w : World} {v f : Value} {xs : List Int} {p : Int → Bool} (hs : SlI w v xs) (hf : Asks w f xs p) : Calls Try.prog 57 #[v, f] w (Ret w (.bool (xs.any p))) := by
  refine f57_calls _ _ ?_
  refine (indexFunc_c hs hf).mono ?_
  rintro e w' ⟨rfl, hg⟩
  refine ⟨_, rfl, ?_, hg⟩
  rw [idxOf_any]
theorem clone_c {w : World} {v : Value} {xs : List Int} (hs : SlI w v xs) (hlen : xs.length ≤ 1000000) : Calls Try.prog 9 #[v] w fun e w' => ∃ v', e = .returned v' ∧ OwnI w' w.heap.size v' xs ∧ Grow w w' := by
  refine f9_calls _ ?_
  obtain ⟨a, c, rfl, h1, h2, h3, h4⟩ := hs.ex
  refine ⟨a.isNone, nilEq (e := 3) (by kernel_rfl), condP_i (fun ha => ?_) (fun ha => ?_)⟩
  · have : a = none := by simpa using ha
    have hc := h3 this
    have : xs = [] := by have : xs.length = 0 := by omega
                         simpa using this
    subst this
    exact ⟨_, rfl, Own.nil _ _ _ _, Grow.refl w⟩
  · intro w1 hw1
    have hl := Own.lit (B := w.heap.size) (n := 0) (sz := 1) hw1 (Nat.le_refl _) (by omega) (by simp)
    refine papp el_int (by omega) hl (hs.grow (alloc_grow hw1)) (by simp) (by simp [encI, Value.oneCell']) (by rw [alloc_size hw1]; omega) (by omega) (by omega) ?_
    intro v' w' ho hf hn
    refine ⟨v', rfl, by simpa [OwnI] using ho, (alloc_grow hw1).fr hf fun i hi e => ?_⟩
    simp [Value.ownBlock] at e
    omega
theorem equal_c {w : World} {u v : Value} {xs ys : List Int} (hx : SlI w u xs) (hy : SlI w v ys) : Calls Try.prog 47 #[u, v] w (Ret w (.bool (decide (xs = ys)))) := by
  refine f47_calls _ _ ?_
  have h1 := hx.len_le
  have h2 := hy.len_le
  refine hx.ln (hy.ln (condP_i (fun h => ?_) fun h => ?_))
  · refine ⟨?_, Grow.refl w⟩
    have : xs ≠ ys := fun e => by subst e; simp at h
    simp [this]
  · have hl : xs.length = ys.length := by simp at h; omega
    refine hx.ln ⟨fun t w' => ∃ k : Nat, t = k ∧ k ≤ xs.length ∧ Grow w w' ∧ xs.take k = ys.take k, fun t _ => xs.length - t.toNat, ⟨0, rfl, by omega, Grow.refl w, by simp⟩, ?_⟩
    rintro - t w1 ⟨k, rfl, hk, hw, htk⟩
    refine condD (fun hlt => ?_) (fun hge => ?_)
    · have hkl : k < xs.length := by omega
      refine (hx.grow hw).rd rfl hkl ((hy.grow hw).rd rfl (by omega) fun m => condP_i (fun h => ?_) fun h => ?_)
      · refine ⟨?_, hw.dr m⟩
        have : xs ≠ ys := fun e => by subst e; simp at h
        simp [this]
      · have he : xs[k] = ys[k] := by simpa using h
        refine ⟨by unfold inR; omega, ⟨k + 1, by omega, by omega, hw.dr m, ?_⟩, by dsimp only; omega⟩
        rw [List.take_succ_eq_append_getElem hkl, List.take_succ_eq_append_getElem (by omega), htk, he]
    · refine ⟨?_, hw⟩
      have : k = xs.length := by omega
      subst this
      rw [List.take_length, hl, List.take_length] at htk
      simp [htk]
/-! ## Comparing: the world is left as it was -/
/-- It returns v; the world is as it was. -/
def Same (w : World) (v : Value) : Ending → World → Prop := fun e w' => e = .returned v ∧ w' = w
def cmpI (x y : Int) : Int := if x < y then -1 else if y < x then 1 else 0
def cmpL : List Int → List Int → Int
  | [], [] => 0
  | [], _ :: _ => -1
  | _ :: _, [] => 1
  | x :: r, y :: s => if cmpI x y = 0 then cmpL r s else cmpI x y
/-! ## Least and greatest -/
theorem minI_c {w : World} {v : Value} {xs : List Int} (hs : SlI w v xs) (h0 : 1 ≤ xs.length) : Calls Try.prog 49 #[v] w fun e w' => ∃ m : Int, e = .returned (.int .i64 m) ∧ m ∈ xs ∧ (∀ x ∈ xs, m ≤ x) ∧ Grow w w' := by
  refine f49_calls _ ?_
  have hle := hs.len_le
  refine hs.ln (cF (decide_eq_false (by omega)) (hs.rd (i := 0) rfl (by omega) ?_))
  refine ⟨fun m t w' => ∃ k : Nat, t = k ∧ 1 ≤ k ∧ k ≤ xs.length ∧ w' = w ∧ m ∈ xs ∧ ∀ j (hj : j < xs.length), j < k → m ≤ xs[j], fun _ t _ => xs.length - t.toNat, ⟨1, rfl, by omega, by omega, rfl, List.getElem_mem _, fun j hj h => by
    have : j = 0 := by omega
    subst this; omega⟩, ?_⟩
  rintro - m t w1 ⟨k, rfl, hk1, hk, rfl, hm, hall⟩
  refine hs.ln (condD (fun hlt => ?_) fun hge => ?_)
  · have hkl : k < xs.length := by omega
    refine hs.rd rfl hkl ⟨by unfold inR; omega, ⟨k + 1, by omega, by omega, by omega, rfl, ?_, fun j hj h => ?_⟩, by dsimp only; omega⟩
    · split
      · exact List.getElem_mem _
      · exact hm
    · by_cases e : j = k
      · subst e; split <;> omega
      · have := hall j hj (by omega)
        split <;> omega
  · refine ⟨m, rfl, hm, fun x hx => ?_, Grow.refl w1⟩
    obtain ⟨j, hj, rfl⟩ := List.mem_iff_getElem.1 hx
    exact hall j hj (by omega)
theorem maxI_c {w : World} {v : Value} {xs : List Int} (hs : SlI w v xs) (h0 : 1 ≤ xs.length) : Calls Try.prog 50 #[v] w fun e w' => ∃ m : Int, e = .returned (.int .i64 m) ∧ m ∈ xs ∧ (∀ x ∈ xs, x ≤ m) ∧ Grow w w' := by
  refine f50_calls _ ?_
  have hle := hs.len_le
  refine hs.ln (cF (decide_eq_false (by omega)) (hs.rd (i := 0) rfl (by omega) ?_))
  refine ⟨fun m t w' => ∃ k : Nat, t = k ∧ 1 ≤ k ∧ k ≤ xs.length ∧ w' = w ∧ m ∈ xs ∧ ∀ j (hj : j < xs.length), j < k → xs[j] ≤ m, fun _ t _ => xs.length - t.toNat, ⟨1, rfl, by omega, by omega, rfl, List.getElem_mem _, fun j hj h => by
    have : j = 0 := by omega
    subst this; omega⟩, ?_⟩
  rintro - m t w1 ⟨k, rfl, hk1, hk, rfl, hm, hall⟩
  refine hs.ln (condD (fun hlt => ?_) fun hge => ?_)
  · have hkl : k < xs.length := by omega
    refine hs.rd rfl hkl ⟨by unfold inR; omega, ⟨k + 1, by omega, by omega, by omega, rfl, ?_, fun j hj h => ?_⟩, by dsimp only; omega⟩
    · split
      · exact List.getElem_mem _
      · exact hm
    · by_cases e : j = k
      · subst e; split <;> omega
      · have := hall j hj (by omega)
        split <;> omega
  · refine ⟨m, rfl, hm, fun x hx => ?_, Grow.refl w1⟩
    obtain ⟨j, hj, rfl⟩ := List.mem_iff_getElem.1 hx
    exact hall j hj (by omega)
/-! ## Atoms and facts in memory -/
/-- A relation and arguments: two cells. -/
def repA (w : World) (cs : List Value) (a : Int × List Int) : Prop := ∃ v, cs = [.int .i64 a.1, v] ∧ SlI w v a.2
theorem repA_mono : Mono repA := fun w w' cs x hg ⟨v, h1, h2⟩ => ⟨v, h1, h2.grow hg⟩
abbrev SlA (w : World) (v : Value) (l : List (Int × List Int)) : Prop := SlX 2 repA w v l
theorem SlA.gr {w w' : World} {v : Value} {l : List (Int × List Int)} (h : SlA w v l) (hf : Grow w w') : SlA w' v l := h.grow repA_mono hf
/-- A slice of ints, as an element. -/
def repI (w : World) (cs : List Value) (x : List Int) : Prop := ∃ v, cs = [v] ∧ SlI w v x
theorem repI_mono : Mono repI := fun w w' cs x hg ⟨v, h1, h2⟩ => ⟨v, h1, h2.grow hg⟩
abbrev SlL (w : World) (v : Value) (l : List (List Int)) : Prop := SlX 1 repI w v l
theorem SlL.gr {w w' : World} {v : Value} {l : List (List Int)} (h : SlL w v l) (hf : Grow w w') : SlL w' v l := h.grow repI_mono hf
/-- An element of one cell is read. -/
theorem SlL.rd1 {w : World} {v : Value} {l : List (List Int)} (h : SlL w v l) {i : Nat} {j : Int} (hj : j = (i : Int)) (hi : i < l.length) {K : Value → Prop} (hk : ∀ u, SlI w u l[i] → K u) :
    ∃ (a : Addr) (m c : Nat), v = .slice (some a) m c ∧ ((0 : Int) ≤ j ∧ j < (m : Int)) ∧ ∃ u : Value, w.cell? (a.add (Int.toNat j * 1)) = some u ∧ K u := by
  obtain ⟨a, m, c, e, hb, cs, hl, hcs, u, rfl, hu⟩ := h.rd hj hi (K := fun cs => ∃ u, cs = [u] ∧ SlI w u l[i]) fun cs _ hr => hr
  have := hcs 0 u rfl
  rw [add_add, Nat.add_zero] at this
  exact ⟨a, m, c, e, hb, u, this, hk u hu⟩
/-- A local copy of two cells reads as was set. -/
theorem two {w : World} {a : Addr} {x y : Value} (h0 : w.cell? (a.add 0) = some x) (h1 : w.cell? (a.add 1) = some y) : ∀ (j : Nat) (u : Value), [x, y][j]? = some u → w.cell? (a.add j) = some u
  | 0, u, h => by simp at h; subst h; exact h0
  | 1, u, h => by simp at h; subst h; exact h1
  | j + 2, u, h => by simp at h
end Go.Proofs.Ytleiddajojgmmaa

/- Contracts: what a valid atom, query and fact is, by the program and by its reference. No condition. -/
namespace Go.Proofs.Ytleiddajojgmmaa
open Go Go.RowKit VC
set_option linter.unusedSimpArgs false
set_option linter.unusedVariables false

abbrev Atm := Int × List Int
/-! ## What is meant -/
def varsL : List Int → Nat
  | [] => 0
  | x :: r => (if 0 ≤ x then 2 ^ x.toNat else 0) ||| varsL r
def varsB : List Atm → Nat
  | [] => 0
  | a :: r => varsL a.2 ||| varsB r
def okF (f : Atm) : Bool := decide (0 ≤ f.1) && decide (f.1 ≤ 5) && decide (1 ≤ f.2.length) && decide (f.2.length ≤ 3) && f.2.all fun x => decide (1 ≤ x) && decide (x ≤ 99)
def okFs (l : List Atm) : Bool := decide (l.length ≤ 24) && l.all okF
theorem okF_iff {a : Atm} : okF a = true ↔ 0 ≤ a.1 ∧ a.1 ≤ 5 ∧ 1 ≤ a.2.length ∧ a.2.length ≤ 3 ∧ ∀ x ∈ a.2, 1 ≤ x ∧ x ≤ 99 := by simp [okF, and_assoc]
theorem app1 (a b : Value) : (#[] ++ #[a] ++ #[b] : Array Value) = #[a, b] := rfl
/-! ## Local copies -/
/-- An atom or fact is read into a variable of its own. -/
theorem SlX.loc {P : Program} {w : World} {v : Value} {l : List Atm} (h : SlA w v l) {i : Nat} {j : Int} (hj : j = (i : Int)) (hi : i < l.length) {zs : Array Value} (hz : zs.size = 2) {t : TypeId} {K : World → Prop}
    (hk : ∀ w2 u, Grow w w2 → w.heap.size < w2.heap.size → SlI w2 u l[i].2 → w2.cell? (Addr.add ⟨w.heap.size, 0, none⟩ 0) = some (.int .i64 l[i].1) → w2.cell? (Addr.add ⟨w.heap.size, 0, none⟩ 1) = some u → K w2) :
    ∃ (a : Addr) (m c : Nat), v = .slice (some a) m c ∧ ((0 : Int) ≤ j ∧ j < (m : Int)) ∧ ∃ cs : List Value, cs.length = 2 ∧ (∀ t u, cs[t]? = some u → w.cell? (Addr.add (a.add (Int.toNat j * 2)) t) = some u) ∧
      ∀ w1, w1 = w.alloc (.cells zs t) → ∃ cs' : Array Value, (Value.agg cs.toArray) = Value.agg cs' ∧ cs'.size = 2 ∧ ∃ w2 : World, (storeCells ⟨w.heap.size, 0, none⟩ cs'.toList).run P w1 = .ok () w2 ∧ K w2 := by
  refine SlX.rd h hj hi fun cs hl hr w1 hw1 => ?_
  obtain ⟨u, rfl, hu⟩ := hr
  have := setR (P := P) (cs := [.int .i64 l[i].1, u]) hw1 (by rw [hz]; rfl) (by
    intro y hy
    simp at hy
    rcases hy with rfl | rfl
    · rfl
    · exact hu.one.2) (K := K) fun w2 hg hs hc => hk w2 u hg hs (hu.grow hg) (hc 0 _ rfl) (hc 1 _ rfl)
  rw [hz] at this
  exact this
/-! ## The program -/
/-- The function value f answers p a, at each a of l, in every world that has come of w. -/
def AsksA (w : World) (f : Value) (l : List Atm) (p : Atm → Bool) : Prop :=
  ∃ g fst cap, f = .func (.func g) fst cap ∧ callOK g = true ∧ ∀ a ∈ l, ∀ w' u, Grow w w' → SlI w' u a.2 → Calls Try.prog g (fst ++ #[.agg #[.int .i64 a.1, u]] ++ cap) w' (Ret w' (.bool (p a)))
theorem indexFact_c {w : World} {v f : Value} {l : List Atm} {p : Atm → Bool} (hs : SlA w v l) (hf : AsksA w f l p) : Calls Try.prog 95 #[v, f] w (Ret w (.int .i64 (idxOf p l))) := by
  refine f95_calls _ _ ?_
  obtain ⟨g, fst, cap, rfl, hg, hcall⟩ := hf
  have hle := SlX.len_le hs
  refine SlX.ln hs ⟨fun t w' => ∃ k : Nat, t = k ∧ k ≤ l.length ∧ Grow w w' ∧ ∀ j (hj : j < l.length), j < k → p l[j] = false, fun t _ => l.length - t.toNat, ⟨0, rfl, by omega, Grow.refl w, fun j _ h => by omega⟩, ?_⟩
  rintro - t w1 ⟨k, rfl, hk, hw, hno⟩
  refine condD (fun hlt => ?_) (fun hge => ?_)
  · have hkl : k < l.length := by omega
    refine SlX.rd (hs.gr hw) rfl hkl ?_
    rintro cs - ⟨u, rfl, hu⟩
    refine ⟨g, fst, cap, rfl, hg, ?_⟩
    refine (hcall l[k] (List.getElem_mem hkl) w1 u hw hu).mono ?_
    rintro e w2 ⟨rfl, hg2⟩
    refine ⟨_, rfl, condP_i (fun hp => ?_) (fun hp => ?_)⟩
    · exact ⟨by rw [idxOf_some hkl hp hno], hw.trans hg2⟩
    · refine ⟨by unfold inR; omega, ⟨k + 1, by omega, by omega, hw.trans hg2, fun j hj hjk => ?_⟩, by dsimp only; omega⟩
      by_cases e : j = k
      · subst e; exact hp
      · exact hno j hj (by omega)
  · exact ⟨by rw [idxOf_none fun j hj => hno j hj (by omega)], hw⟩
theorem containsFact_c {w : World} {v f : Value} {l : List Atm} {p : Atm → Bool} (hs : SlA w v l) (hf : AsksA w f l p) : Calls Try.prog 51 #[v, f] w (Ret w (.bool (l.any p))) := by
  refine f51_calls _ _ ?_
  refine (indexFact_c hs hf).mono ?_
  rintro e w' ⟨rfl, hg⟩
  refine ⟨_, rfl, ?_, hg⟩
  rw [idxOf_any]
end Go.Proofs.Ytleiddajojgmmaa

/- Contracts: valid facts by the program; valid atoms, queries and facts by the reference. No condition. -/
namespace Go.Proofs.Ytleiddajojgmmaa
open Go Go.RowKit VC
set_option linter.unusedSimpArgs false
set_option linter.unusedVariables false

/-! ## The reference -/
/-- The reference's test of facts. -/
theorem refFacts_c {w : World} {v : Value} {l : List Atm} (hs : SlA w v l) : Calls Try.prog 25 #[v] w (Ret w (.bool (okFs l))) := by
  refine f25_calls _ ?_
  have hle := SlX.len_le hs
  have no : ∀ {w' k} (hk : k < l.length), Grow w w' → ¬ okF l[k] = true → Ret w (.bool (okFs l)) (.returned (.bool false)) w' := fun hk g h => ⟨by
    have : l.all okF = false := by
      rw [List.all_eq_false]
      exact ⟨_, List.getElem_mem hk, h⟩
    simp only [okFs, this, Bool.and_false], g⟩
  refine SlX.ln hs ⟨fun t w' => ∃ k : Nat, t = k ∧ k ≤ l.length ∧ (∀ a ∈ l.take k, okF a = true) ∧ Grow w w', fun t _ => l.length - t.toNat, ⟨0, rfl, by omega, by simp, Grow.refl w⟩, ?_⟩
  rintro - t w1 ⟨k, rfl, hk, hall, g1⟩
  refine condD (fun hlt => ?_) (fun hge => ?_)
  · have hkl : k < l.length := by omega
    refine SlX.loc (hs.gr g1) rfl hkl rfl fun w2 u g2 _ hu c0 c1 => ?_
    have g02 := g1.trans g2
    have hul := hu.len_le
    refine ⟨_, c0, condD (fun h0 => no hkl g02 (by rw [okF_iff]; omega)) fun h0 => ?_⟩
    refine ⟨_, c0, condD (fun h1 => no hkl g02 (by rw [okF_iff]; omega)) fun h1 => ?_⟩
    refine ⟨_, c1, hu.ln (condD (fun h2 => no hkl g02 (by rw [okF_iff]; omega)) fun h2 => ?_)⟩
    refine ⟨_, c1, hu.ln (condD (fun h3 => no hkl g02 (by rw [okF_iff]; omega)) fun h3 => ?_)⟩
    refine ⟨_, c1, hu.ln ⟨fun t w' => ∃ j : Nat, t = j ∧ j ≤ (l[k]).2.length ∧ (∀ x ∈ (l[k]).2.take j, 1 ≤ x ∧ x ≤ 99) ∧ Grow w2 w', fun t _ => (l[k]).2.length - t.toNat, ⟨0, rfl, by omega, by simp, Grow.refl w2⟩, ?_⟩⟩
    rintro - t w3 ⟨j, rfl, hj, hall2, g3⟩
    have g03 := g02.trans g3
    refine condD (fun hlt => ?_) (fun hge => ?_)
    · have hjl : j < (l[k]).2.length := by omega
      have bad : ¬ (1 ≤ (l[k]).2[j] ∧ (l[k]).2[j] ≤ 99) → ¬ okF l[k] = true := fun hb h => hb ((okF_iff.1 h).2.2.2.2 _ (List.getElem_mem hjl))
      refine (hu.grow g3).rd rfl hjl (condD (fun h4 => no hkl g03 (bad (by omega))) fun h4 => condD (fun h5 => no hkl g03 (bad (by omega))) fun h5 => ?_)
      refine ⟨by unfold inR; omega, ⟨j + 1, by omega, by omega, fun x hx => ?_, g3⟩, by dsimp only; omega⟩
      rw [List.take_succ_eq_append_getElem hjl] at hx
      rcases List.mem_append.1 hx with hx | hx
      · exact hall2 x hx
      · have : x = (l[k]).2[j] := by simpa using hx
        subst this
        omega
    · have hjl : j = (l[k]).2.length := by omega
      subst hjl
      rw [List.take_length] at hall2
      refine ⟨by unfold inR; omega, ⟨k + 1, by omega, by omega, fun x hx => ?_, g03⟩, by dsimp only; omega⟩
      rw [List.take_succ_eq_append_getElem hkl] at hx
      rcases List.mem_append.1 hx with hx | hx
      · exact hall x hx
      · have : x = l[k] := by simpa using hx
        subst this
        exact okF_iff.2 ⟨by omega, by omega, by omega, by omega, hall2⟩
  · have hkl : k = l.length := by omega
    subst hkl
    rw [List.take_length] at hall
    refine SlX.ln hs ⟨?_, g1⟩
    have : l.all okF = true := List.all_eq_true.2 hall
    simp only [okFs, this, Bool.and_true]
    congr 2
    rw [Bool.eq_iff_iff]; simp; omega
end Go.Proofs.Ytleiddajojgmmaa
