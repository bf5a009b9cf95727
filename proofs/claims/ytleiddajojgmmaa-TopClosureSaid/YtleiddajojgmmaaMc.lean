/- Contracts of leaves: slices of ints (search, clone, equal, compare, least, greatest), atoms and facts, and how they lie in memory. No condition. -/
import Derived.Test.YtleiddajojgmmaaGs
import Derived.Test.YtleiddajojgmmaaVr
namespace Go.Proofs.Ytleiddajojgmmaa
open Go Go.RowKit VC
set_option linter.unusedSimpArgs false
set_option linter.unusedVariables false

/-- It returns v, and nothing that was there has turned. -/
def Ret (w : World) (v : Value) : Ending → World → Prop := fun e w' => e = .returned v ∧ Grow w w'
abbrev OwnI (w : World) (B : Nat) (v : Value) (xs : List Int) : Prop := Own w B 3 1 v xs.length (xs.map encI)
/-- A record that was boxed. -/
theorem boxc {w w1 : World} {cs : Array Value} {t : TypeId} (hw : w1 = w.alloc (.cells cs t)) (j : Nat) (v : Value) (h : cs[j]? = some v) : w1.cell? (Addr.add ⟨w.heap.size, 0, none⟩ j) = some v := by
  rw [Addr.add0, alloc_cell hw]; exact h
/-! ## Ints -/
def Asks (w : World) (f : Value) (xs : List Int) (p : Int → Bool) : Prop :=
  ∃ g fst cap, f = .func (.func g) fst cap ∧ callOK g = true ∧ ∀ x ∈ xs, ∀ w', Grow w w' → Calls Try.prog g (fst ++ #[.int .i64 x] ++ cap) w' (Ret w' (.bool (p x)))
def idxOf {α : Type} (p : α → Bool) (xs : List α) : Int := match xs.findIdx? p with | some i => i | none => -1
theorem idxOf_any {α : Type} (p : α → Bool) (xs : List α) : decide (0 ≤ idxOf p xs) = xs.any p := by
  unfold idxOf
  cases h : xs.findIdx? p with
  | none =>
    have := List.findIdx?_eq_none_iff.1 h
    have : xs.any p = false := List.any_eq_false.2 fun x hx => by simp [this x hx]
    simp [this]
  | some i =>
    obtain ⟨hi, hp, _⟩ := List.findIdx?_eq_some_iff_getElem.1 h
    have : xs.any p = true := List.any_eq_true.2 ⟨xs[i], List.getElem_mem hi, hp⟩
    simp [this]
theorem idxOf_some {α : Type} {p : α → Bool} {xs : List α} {k : Nat} (hk : k < xs.length) (hp : p xs[k] = true) (hno : ∀ j (hj : j < xs.length), j < k → p xs[j] = false) : idxOf p xs = (k : Int) := by
  have : xs.findIdx? p = some k := List.findIdx?_eq_some_iff_getElem.2 ⟨hk, hp, fun j hj => by simpa using hno j (by omega) hj⟩
  rw [idxOf, this]
theorem idxOf_none {α : Type} {p : α → Bool} {xs : List α} (hno : ∀ j (hj : j < xs.length), p xs[j] = false) : idxOf p xs = -1 := by
  have : xs.findIdx? p = none := List.findIdx?_eq_none_iff.2 fun x hx => by
    obtain ⟨j, hj, rfl⟩ := List.mem_iff_getElem.1 hx
    exact hno j hj
  rw [idxOf, this]
theorem indexFunc_c {w : World} {v f : Value} {xs : List Int} {p : Int → Bool} (hs : SlI w v xs) (hf : Asks w f xs p) : Calls Try.prog 101 #[v, f] w (Ret w (.int .i64 (idxOf p xs))) := by
  refine f101_calls _ _ ?_
  obtain ⟨g, fst, cap, rfl, hg, hcall⟩ := hf
  have hle := hs.len_le
  refine hs.ln ⟨fun t w' => ∃ k : Nat, t = k ∧ k ≤ xs.length ∧ Grow w w' ∧ ∀ j (hj : j < xs.length), j < k → p xs[j] = false, fun t _ => xs.length - t.toNat, ⟨0, rfl, by omega, Grow.refl w, fun j _ h => by omega⟩, ?_⟩
  rintro - t w1 ⟨k, rfl, hk, hw, hno⟩
  refine condD (fun hlt => ?_) (fun hge => ?_)
  · have hkl : k < xs.length := by omega
    refine (hs.grow hw).rd rfl hkl ⟨g, fst, cap, rfl, hg, ?_⟩
    refine (hcall xs[k] (List.getElem_mem hkl) w1 hw).mono ?_
    rintro e w2 ⟨rfl, hg2⟩
    refine ⟨_, rfl, condP_i (fun hp => ?_) (fun hp => ?_)⟩
    · exact ⟨by rw [idxOf_some hkl hp hno], hw.trans hg2⟩
    · refine ⟨by unfold inR; omega, ⟨k + 1, by omega, by omega, hw.trans hg2, fun j hj hjk => ?_⟩, by dsimp only; omega⟩
      by_cases e : j = k
      · subst e; exact hp
      · exact hno j hj (by omega)
  · exact ⟨by rw [idxOf_none fun j hj => hno j hj (by omega)], hw⟩
theorem containsFunc_c {w : World} {v f : Value} {xs : List Int} {p : Int → Bool} (hs : SlI w v xs) (hf : Asks w f xs p) : Calls Try.prog 57 #[v, f] w (Ret w (.bool (xs.any p))) := by
  refine f57_calls _ _ ?_
  refine (indexFunc_c hs hf).mono ?_
  rintro e w' ⟨rfl, hg⟩
  refine ⟨_, rfl, ?_, hg⟩
  rw [idxOf_any]
theorem equal_c {w : World} {u v : Value} {xs ys : List Int} (hx : SlI w u xs) (hy : SlI w v ys) : Calls Try.prog 47 #[u, v] w (Ret w (.bool (decide (xs = ys)))) := by
  refine f47_calls _ _ ?_
  have h1 := hx.len_le
  have h2 := hy.len_le
  refine hx.ln (hy.ln (condP_i (fun h => ?_) fun h => ?_))
  · refine ⟨?_, Grow.refl w⟩
    have : xs ≠ ys := fun e => by subst e; simp at h
    simp [this]
  · have hl : xs.length = ys.length := by simp at h; omega
    refine hx.ln ⟨fun t w' => ∃ k : Nat, t = k ∧ k ≤ xs.length ∧ Grow w w' ∧ xs.take k = ys.take k, fun t _ => xs.length - t.toNat, ⟨0, rfl, by omega, Grow.refl w, by simp⟩, ?_⟩
    rintro - t w1 ⟨k, rfl, hk, hw, htk⟩
    refine condD (fun hlt => ?_) (fun hge => ?_)
    · have hkl : k < xs.length := by omega
      refine (hx.grow hw).rd rfl hkl ((hy.grow hw).rd rfl (by omega) fun m => condP_i (fun h => ?_) fun h => ?_)
      · refine ⟨?_, hw.dr m⟩
        have : xs ≠ ys := fun e => by subst e; simp at h
        simp [this]
      · have he : xs[k] = ys[k] := by simpa using h
        refine ⟨by unfold inR; omega, ⟨k + 1, by omega, by omega, hw.dr m, ?_⟩, by dsimp only; omega⟩
        rw [List.take_succ_eq_append_getElem hkl, List.take_succ_eq_append_getElem (by omega), htk, he]
    · refine ⟨?_, hw⟩
      have : k = xs.length := by omega
      subst this
      rw [List.take_length, hl, List.take_length] at htk
      simp [htk]
/-! ## Comparing: the world is left as it was -/
/-- It returns v; the world is as it was. -/
def Same (w : World) (v : Value) : Ending → World → Prop := fun e w' => e = .returned v ∧ w' = w
def cmpI (x y : Int) : Int := if x < y then -1 else if y < x then 1 else 0
def cmpL : List Int → List Int → Int
  | [], [] => 0
  | [], _ :: _ => -1
  | _ :: _, [] => 1
  | x :: r, y :: s => if cmpI x y = 0 then cmpL r s else cmpI x y
theorem isNaN_c {x : Int} {w : World} : Calls Try.prog 108 #[.int .i64 x] w (Same w (.bool false)) := by
  refine f108_calls _ ?_
  exact ⟨by simp, rfl⟩
theorem cmpI_c {x y : Int} {w : World} : Calls Try.prog 75 #[.int .i64 x, .int .i64 y] w (Same w (.int .i64 (cmpI x y))) := by
  refine f75_calls _ _ ?_
  refine isNaN_c.mono ?_
  rintro e w1 ⟨rfl, rfl⟩
  refine ⟨_, rfl, isNaN_c.mono ?_⟩
  rintro e w1 ⟨rfl, rfl⟩
  refine ⟨_, rfl, cF rfl (cF rfl (condD (fun h => ⟨?_, rfl⟩) fun h => condD (fun h2 => ⟨?_, rfl⟩) fun h2 => ⟨?_, rfl⟩))⟩
  · simp [cmpI, h]
  · simp [cmpI, h, h2]
  · simp [cmpI, h, h2]
theorem compare_c {w : World} {u v : Value} {xs ys : List Int} (hx : SlI w u xs) (hy : SlI w v ys) : Calls Try.prog 41 #[u, v] w (Same w (.int .i64 (cmpL xs ys))) := by
  refine f41_calls _ _ ?_
  have h1 := hx.len_le
  have h2 := hy.len_le
  refine hx.ln ⟨fun t w' => ∃ k : Nat, t = k ∧ k ≤ xs.length ∧ k ≤ ys.length ∧ w' = w ∧ cmpL xs ys = cmpL (xs.drop k) (ys.drop k), fun t _ => xs.length - t.toNat, ⟨0, rfl, by omega, by omega, rfl, rfl⟩, ?_⟩
  rintro - t w1 ⟨k, rfl, hk, hk2, rfl, he⟩
  refine condD (fun hlt => ?_) (fun hge => ?_)
  · have hkl : k < xs.length := by omega
    rw [List.drop_eq_getElem_cons hkl] at he
    refine hx.rd rfl hkl (hy.ln (condD (fun h => ?_) fun h => ?_))
    · have : ys.drop k = [] := List.drop_eq_nil_of_le (by omega)
      rw [this] at he
      exact ⟨by rw [he]; rfl, rfl⟩
    · have hkl2 : k < ys.length := by omega
      rw [List.drop_eq_getElem_cons hkl2] at he
      refine hy.rd rfl hkl2 (cmpI_c.mono ?_)
      rintro e w2 ⟨rfl, rfl⟩
      refine ⟨_, rfl, condP_i (fun h => ?_) fun h => ?_⟩
      · have h : ¬ cmpI xs[k] ys[k] = 0 := by simpa using h
        exact ⟨by rw [he, cmpL, if_neg h], rfl⟩
      · have h : cmpI xs[k] ys[k] = 0 := by simpa using h
        refine ⟨by unfold inR; omega, ⟨k + 1, by omega, by omega, by omega, rfl, ?_⟩, by dsimp only; omega⟩
        rw [he, cmpL, if_pos h]
  · have hkl : k = xs.length := by omega
    subst hkl
    rw [List.drop_length] at he
    refine hx.ln (hy.ln (condD (fun h => ⟨?_, rfl⟩) fun h => ⟨?_, rfl⟩))
    · rw [he, List.drop_eq_getElem_cons (show xs.length < ys.length by omega)]; rfl
    · have : ys.drop xs.length = [] := List.drop_eq_nil_of_le (by omega)
      rw [he, this]; rfl
/-! ## Least and greatest -/
theorem minI_c {w : World} {v : Value} {xs : List Int} (hs : SlI w v xs) (h0 : 1 ≤ xs.length) : Calls Try.prog 49 #[v] w fun e w' => ∃ m : Int, e = .returned (.int .i64 m) ∧ m ∈ xs ∧ (∀ x ∈ xs, m ≤ x) ∧ Grow w w' := by
  refine f49_calls _ ?_
  have hle := hs.len_le
  refine hs.ln (cF (decide_eq_false (by omega)) (hs.rd (i := 0) rfl (by omega) ?_))
  refine ⟨fun m t w' => ∃ k : Nat, t = k ∧ 1 ≤ k ∧ k ≤ xs.length ∧ w' = w ∧ m ∈ xs ∧ ∀ j (hj : j < xs.length), j < k → m ≤ xs[j], fun _ t _ => xs.length - t.toNat, ⟨1, rfl, by omega, by omega, rfl, List.getElem_mem _, fun j hj h => by
    have : j = 0 := by omega
    subst this; omega⟩, ?_⟩
  rintro - m t w1 ⟨k, rfl, hk1, hk, rfl, hm, hall⟩
  refine hs.ln (condD (fun hlt => ?_) fun hge => ?_)
  · have hkl : k < xs.length := by omega
    refine hs.rd rfl hkl ⟨by unfold inR; omega, ⟨k + 1, by omega, by omega, by omega, rfl, ?_, fun j hj h => ?_⟩, by dsimp only; omega⟩
    · split
      · exact List.getElem_mem _
      · exact hm
    · by_cases e : j = k
      · subst e; split <;> omega
      · have := hall j hj (by omega)
        split <;> omega
  · refine ⟨m, rfl, hm, fun x hx => ?_, Grow.refl w1⟩
    obtain ⟨j, hj, rfl⟩ := List.mem_iff_getElem.1 hx
    exact hall j hj (by omega)
theorem maxI_c {w : World} {v : Value} {xs : List Int} (hs : SlI w v xs) (h0 : 1 ≤ xs.length) : Calls Try.prog 50 #[v] w fun e w' => ∃ m : Int, e = .returned (.int .i64 m) ∧ m ∈ xs ∧ (∀ x ∈ xs, x ≤ m) ∧ Grow w w' := by
  refine f50_calls _ ?_
  have hle := hs.len_le
  refine hs.ln (cF (decide_eq_false (by omega)) (hs.rd (i := 0) rfl (by omega) ?_))
  refine ⟨fun m t w' => ∃ k : Nat, t = k ∧ 1 ≤ k ∧ k ≤ xs.length ∧ w' = w ∧ m ∈ xs ∧ ∀ j (hj : j < xs.length), j < k → xs[j] ≤ m, fun _ t _ => xs.length - t.toNat, ⟨1, rfl, by omega, by omega, rfl, List.getElem_mem _, fun j hj h => by
    have : j = 0 := by omega
    subst this; omega⟩, ?_⟩
  rintro - m t w1 ⟨k, rfl, hk1, hk, rfl, hm, hall⟩
  refine hs.ln (condD (fun hlt => ?_) fun hge => ?_)
  · have hkl : k < xs.length := by omega
    refine hs.rd rfl hkl ⟨by unfold inR; omega, ⟨k + 1, by omega, by omega, by omega, rfl, ?_, fun j hj h => ?_⟩, by dsimp only; omega⟩
    · split
      · exact List.getElem_mem _
      · exact hm
    · by_cases e : j = k
      · subst e; split <;> omega
      · have := hall j hj (by omega)
        split <;> omega
  · refine ⟨m, rfl, hm, fun x hx => ?_, Grow.refl w1⟩
    obtain ⟨j, hj, rfl⟩ := List.mem_iff_getElem.1 hx
    exact hall j hj (by omega)
/-! ## Atoms and facts in memory -/
/-- A relation and arguments: two cells. -/
def repA (w : World) (cs : List Value) (a : Int × List Int) : Prop := ∃ v, cs = [.int .i64 a.1, v] ∧ SlI w v a.2
theorem repA_mono : Mono repA := fun w w' cs x hg ⟨v, h1, h2⟩ => ⟨v, h1, h2.grow hg⟩
abbrev SlA (w : World) (v : Value) (l : List (Int × List Int)) : Prop := SlX 2 repA w v l
theorem SlA.gr {w w' : World} {v : Value} {l : List (Int × List Int)} (h : SlA w v l) (hf : Grow w w') : SlA w' v l := h.grow repA_mono hf
/-- A slice of ints, as an element. -/
def repI (w : World) (cs : List Value) (x : List Int) : Prop := ∃ v, cs = [v] ∧ SlI w v x
theorem repI_mono : Mono repI := fun w w' cs x hg ⟨v, h1, h2⟩ => ⟨v, h1, h2.grow hg⟩
abbrev SlL (w : World) (v : Value) (l : List (List Int)) : Prop := SlX 1 repI w v l
theorem SlL.gr {w w' : World} {v : Value} {l : List (List Int)} (h : SlL w v l) (hf : Grow w w') : SlL w' v l := h.grow repI_mono hf
/-- A local copy of two cells reads as was set. -/
theorem two {w : World} {a : Addr} {x y : Value} (h0 : w.cell? (a.add 0) = some x) (h1 : w.cell? (a.add 1) = some y) : ∀ (j : Nat) (u : Value), [x, y][j]? = some u → w.cell? (a.add j) = some u
  | 0, u, h => by simp at h; subst h; exact h0
  | 1, u, h => by simp at h; subst h; exact h1
  | j + 2, u, h => by simp at h
end Go.Proofs.Ytleiddajojgmmaa

/- Contracts: what a valid atom, query and fact is, by the program and by its reference. No condition. -/
namespace Go.Proofs.Ytleiddajojgmmaa
open Go Go.RowKit VC
set_option linter.unusedSimpArgs false
set_option linter.unusedVariables false

abbrev Atm := Int × List Int
/-! ## What is meant -/
def varsL : List Int → Nat
  | [] => 0
  | x :: r => (if 0 ≤ x then 2 ^ x.toNat else 0) ||| varsL r
def varsB : List Atm → Nat
  | [] => 0
  | a :: r => varsL a.2 ||| varsB r
theorem app1 (a b : Value) : (#[] ++ #[a] ++ #[b] : Array Value) = #[a, b] := rfl
/-! ## Local copies -/
/-- An atom or fact is read into a variable of its own. -/
theorem SlX.loc {P : Program} {w : World} {v : Value} {l : List Atm} (h : SlA w v l) {i : Nat} {j : Int} (hj : j = (i : Int)) (hi : i < l.length) {zs : Array Value} (hz : zs.size = 2) {t : TypeId} {K : World → Prop}
    (hk : ∀ w2 u, Grow w w2 → w.heap.size < w2.heap.size → SlI w2 u l[i].2 → w2.cell? (Addr.add ⟨w.heap.size, 0, none⟩ 0) = some (.int .i64 l[i].1) → w2.cell? (Addr.add ⟨w.heap.size, 0, none⟩ 1) = some u → K w2) :
    ∃ (a : Addr) (m c : Nat), v = .slice (some a) m c ∧ ((0 : Int) ≤ j ∧ j < (m : Int)) ∧ ∃ cs : List Value, cs.length = 2 ∧ (∀ t u, cs[t]? = some u → w.cell? (Addr.add (a.add (Int.toNat j * 2)) t) = some u) ∧
      ∀ w1, w1 = w.alloc (.cells zs t) → ∃ cs' : Array Value, (Value.agg cs.toArray) = Value.agg cs' ∧ cs'.size = 2 ∧ ∃ w2 : World, (storeCells ⟨w.heap.size, 0, none⟩ cs'.toList).run P w1 = .ok () w2 ∧ K w2 := by
  refine SlX.rd h hj hi fun cs hl hr w1 hw1 => ?_
  obtain ⟨u, rfl, hu⟩ := hr
  have := setR (P := P) (cs := [.int .i64 l[i].1, u]) hw1 (by rw [hz]; rfl) (by
    intro y hy
    simp at hy
    rcases hy with rfl | rfl
    · rfl
    · exact hu.one.2) (K := K) fun w2 hg hs hc => hk w2 u hg hs (hu.grow hg) (hc 0 _ rfl) (hc 1 _ rfl)
  rw [hz] at this
  exact this
/-! ## The program -/
end Go.Proofs.Ytleiddajojgmmaa
