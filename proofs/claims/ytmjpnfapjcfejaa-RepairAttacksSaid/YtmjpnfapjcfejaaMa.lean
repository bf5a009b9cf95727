/- Contracts of leaves: slices of ints (search, clone, equal, compare, least, greatest), atoms and facts, and how they lie in memory. No condition. -/
import Derived.Test.YtmjpnfapjcfejaaGs
import Derived.Test.YtmjpnfapjcfejaaVr
import Derived.Test.YtmjpnfapjcfejaaVb
namespace Go.Proofs.Ytmjpnfapjcfejaa
open Go Go.RowKit VC
set_option linter.unusedSimpArgs false
set_option linter.unusedVariables false

/-- It returns v, and nothing that was there has turned. -/
def Ret (w : World) (v : Value) : Ending → World → Prop := fun e w' => e = .returned v ∧ Grow w w'
theorem el_int : ElT Try.prog 22 3 1 8 (.int .i64 0) := ⟨by kernel_rfl, ⟨Try.t3, by kernel_rfl, by kernel_rfl, by kernel_rfl, by kernel_rfl⟩, rfl⟩
abbrev OwnI (w : World) (B : Nat) (v : Value) (xs : List Int) : Prop := Own w B 3 1 v xs.length (xs.map encI)
/-- A record that was boxed. -/
theorem boxc {w w1 : World} {cs : Array Value} {t : TypeId} (hw : w1 = w.alloc (.cells cs t)) (j : Nat) (v : Value) (h : cs[j]? = some v) : w1.cell? (Addr.add ⟨w.heap.size, 0, none⟩ j) = some v := by
  rw [Addr.add0, alloc_cell hw]; exact h
/-! ## Ints -/
def Asks (w : World) (f : Value) (xs : List Int) (p : Int → Bool) : Prop :=
  ∃ g fst cap, f = .func (.func g) fst cap ∧ callOK g = true ∧ ∀ x ∈ xs, ∀ w', Grow w w' → Calls Try.prog g (fst ++ #[.int .i64 x] ++ cap) w' (Ret w' (.bool (p x)))
def idxOf {α : Type} (p : α → Bool) (xs : List α) : Int := match xs.findIdx? p with | some i => i | none => -1
theorem idxOf_any {α : Type} (p : α → Bool) (xs : List α) : decide (0 ≤ idxOf p xs) = xs.any p := by
  unfold idxOf
  cases h : xs.findIdx? p with
  | none =>
    have := List.findIdx?_eq_none_iff.1 h
    have : xs.any p = false := List.any_eq_false.2 fun x hx => by simp [this x hx]
    simp [this]
  | some i =>
    obtain ⟨hi, hp, _⟩ := List.findIdx?_eq_some_iff_getElem.1 h
    have : xs.any p = true := List.any_eq_true.2 ⟨xs[i], List.getElem_mem hi, hp⟩
    simp [this]
theorem idxOf_some {α : Type} {p : α → Bool} {xs : List α} {k : Nat} (hk : k < xs.length) (hp : p xs[k] = true) (hno : ∀ j (hj : j < xs.length), j < k → p xs[j] = false) : idxOf p xs = (k : Int) := by
  have : xs.findIdx? p = some k := List.findIdx?_eq_some_iff_getElem.2 ⟨hk, hp, fun j hj => by simpa using hno j (by omega) hj⟩
  rw [idxOf, this]
theorem idxOf_none {α : Type} {p : α → Bool} {xs : List α} (hno : ∀ j (hj : j < xs.length), p xs[j] = false) : idxOf p xs = -1 := by
  have : xs.findIdx? p = none := List.findIdx?_eq_none_iff.2 fun x hx => by
    obtain ⟨j, hj, rfl⟩ := List.mem_iff_getElem.1 hx
    exact hno j hj
  rw [idxOf, this]
theorem indexFunc_c {w : World} {v f : Value} {xs : List Int} {p : Int → Bool} (hs : SlI w v xs) (hf : Asks w f xs p) : Calls Try.prog 90 #[v, f] w (Ret w (.int .i64 (idxOf p xs))) := by
  refine f90_calls _ _ ?_
  obtain ⟨g, fst, cap, rfl, hg, hcall⟩ := hf
  have hle := hs.len_le
  refine hs.ln ⟨fun t w' => ∃ k : Nat, t = k ∧ k ≤ xs.length ∧ Grow w w' ∧ ∀ j (hj : j < xs.length), j < k → p xs[j] = false, fun t _ => xs.length - t.toNat, ⟨0, rfl, by omega, Grow.refl w, fun j _ h => by omega⟩, ?_⟩
  rintro - t w1 ⟨k, rfl, hk, hw, hno⟩
  refine condD (fun hlt => ?_) (fun hge => ?_)
  · have hkl : k < xs.length := by omega
    refine (hs.grow hw).rd rfl hkl ⟨g, fst, cap, rfl, hg, ?_⟩
    refine (hcall xs[k] (List.getElem_mem hkl) w1 hw).mono ?_
    rintro e w2 ⟨rfl, hg2⟩
    refine ⟨_, rfl, condP_i (fun hp => ?_) (fun hp => ?_)⟩
    · exact ⟨by rw [idxOf_some hkl hp hno], hw.trans hg2⟩
    · refine ⟨by unfold inR; omega, ⟨k + 1, by omega, by omega, hw.trans hg2, fun j hj hjk => ?_⟩, by dsimp only; omega⟩
      by_cases e : j = k
      · subst e; exact hp
      · exact hno j hj (by omega)
  · exact ⟨by rw [idxOf_none fun j hj => hno j hj (by omega)], hw⟩
theorem containsFunc_c {w : World} {v f : Value} {xs : List Int} {p : Int → Bool} (hs : SlI w v xs) (hf : Asks w f xs p) : Calls Try.prog 68 #[v, f] w (Ret w (.bool (xs.any p))) := by
  refine f68_calls _ _ ?_
  refine (indexFunc_c hs hf).mono ?_
  rintro e w' ⟨rfl, hg⟩
  refine ⟨_, rfl, ?_, hg⟩
  rw [idxOf_any]
theorem clone_c {w : World} {v : Value} {xs : List Int} (hs : SlI w v xs) (hlen : xs.length ≤ 1000000) : Calls Try.prog 24 #[v] w fun e w' => ∃ v', e = .returned v' ∧ OwnI w' w.heap.size v' xs ∧ Grow w w' := by
  refine f24_calls _ ?_
  obtain ⟨a, c, rfl, h1, h2, h3, h4⟩ := hs.ex
  refine ⟨a.isNone, nilEq (e := 3) (by kernel_rfl), condP_i (fun ha => ?_) (fun ha => ?_)⟩
  · have : a = none := by simpa using ha
    have hc := h3 this
    have : xs = [] := by have : xs.length = 0 := by omega
                         simpa using this
    subst this
    exact ⟨_, rfl, Own.nil _ _ _ _, Grow.refl w⟩
  · intro w1 hw1
    have hl := Own.lit (B := w.heap.size) (n := 0) (sz := 1) hw1 (Nat.le_refl _) (by omega) (by simp)
    refine papp el_int (by omega) hl (hs.grow (alloc_grow hw1)) (by simp) (by simp [encI, Value.oneCell']) (by rw [alloc_size hw1]; omega) (by omega) (by omega) ?_
    intro v' w' ho hf hn
    refine ⟨v', rfl, by simpa [OwnI] using ho, (alloc_grow hw1).fr hf fun i hi e => ?_⟩
    simp [Value.ownBlock] at e
    omega
theorem equal_c {w : World} {u v : Value} {xs ys : List Int} (hx : SlI w u xs) (hy : SlI w v ys) : Calls Try.prog 19 #[u, v] w (Ret w (.bool (decide (xs = ys)))) := by
  refine f19_calls _ _ ?_
  have h1 := hx.len_le
  have h2 := hy.len_le
  refine hx.ln (hy.ln (condP_i (fun h => ?_) fun h => ?_))
  · refine ⟨?_, Grow.refl w⟩
    have : xs ≠ ys := fun e => by subst e; simp at h
    simp [this]
  · have hl : xs.length = ys.length := by simp at h; omega
    refine hx.ln ⟨fun t w' => ∃ k : Nat, t = k ∧ k ≤ xs.length ∧ Grow w w' ∧ xs.take k = ys.take k, fun t _ => xs.length - t.toNat, ⟨0, rfl, by omega, Grow.refl w, by simp⟩, ?_⟩
    rintro - t w1 ⟨k, rfl, hk, hw, htk⟩
    refine condD (fun hlt => ?_) (fun hge => ?_)
    · have hkl : k < xs.length := by omega
      refine (hx.grow hw).rd rfl hkl ((hy.grow hw).rd rfl (by omega) fun m => condP_i (fun h => ?_) fun h => ?_)
      · refine ⟨?_, hw.dr m⟩
        have : xs ≠ ys := fun e => by subst e; simp at h
        simp [this]
      · have he : xs[k] = ys[k] := by simpa using h
        refine ⟨by unfold inR; omega, ⟨k + 1, by omega, by omega, hw.dr m, ?_⟩, by dsimp only; omega⟩
        rw [List.take_succ_eq_append_getElem hkl, List.take_succ_eq_append_getElem (by omega), htk, he]
    · refine ⟨?_, hw⟩
      have : k = xs.length := by omega
      subst this
      rw [List.take_length, hl, List.take_length] at htk
      simp [htk]
/-! ## Comparing: the world is left as it was -/
def cmpI (x y : Int) : Int := if x < y then -1 else if y < x then 1 else 0
def cmpL : List Int → List Int → Int
  | [], [] => 0
  | [], _ :: _ => -1
  | _ :: _, [] => 1
  | x :: r, y :: s => if cmpI x y = 0 then cmpL r s else cmpI x y
/-! ## Least and greatest -/
theorem minI_c {w : World} {v : Value} {xs : List Int} (hs : SlI w v xs) (h0 : 1 ≤ xs.length) : Calls Try.prog 37 #[v] w fun e w' => ∃ m : Int, e = .returned (.int .i64 m) ∧ m ∈ xs ∧ (∀ x ∈ xs, m ≤ x) ∧ Grow w w' := by
  refine f37_calls _ ?_
  have hle := hs.len_le
  refine hs.ln (cF (decide_eq_false (by omega)) (hs.rd (i := 0) rfl (by omega) ?_))
  refine ⟨fun m t w' => ∃ k : Nat, t = k ∧ 1 ≤ k ∧ k ≤ xs.length ∧ w' = w ∧ m ∈ xs ∧ ∀ j (hj : j < xs.length), j < k → m ≤ xs[j], fun _ t _ => xs.length - t.toNat, ⟨1, rfl, by omega, by omega, rfl, List.getElem_mem _, fun j hj h => by
    have : j = 0 := by omega
    subst this; omega⟩, ?_⟩
  rintro - m t w1 ⟨k, rfl, hk1, hk, rfl, hm, hall⟩
  refine hs.ln (condD (fun hlt => ?_) fun hge => ?_)
  · have hkl : k < xs.length := by omega
    refine hs.rd rfl hkl ⟨by unfold inR; omega, ⟨k + 1, by omega, by omega, by omega, rfl, ?_, fun j hj h => ?_⟩, by dsimp only; omega⟩
    · split
      · exact List.getElem_mem _
      · exact hm
    · by_cases e : j = k
      · subst e; split <;> omega
      · have := hall j hj (by omega)
        split <;> omega
  · refine ⟨m, rfl, hm, fun x hx => ?_, Grow.refl w1⟩
    obtain ⟨j, hj, rfl⟩ := List.mem_iff_getElem.1 hx
    exact hall j hj (by omega)
theorem maxI_c {w : World} {v : Value} {xs : List Int} (hs : SlI w v xs) (h0 : 1 ≤ xs.length) : Calls Try.prog 38 #[v] w fun e w' => ∃ m : Int, e = .returned (.int .i64 m) ∧ m ∈ xs ∧ (∀ x ∈ xs, x ≤ m) ∧ Grow w w' := by
  refine f38_calls _ ?_
  have hle := hs.len_le
  refine hs.ln (cF (decide_eq_false (by omega)) (hs.rd (i := 0) rfl (by omega) ?_))
  refine ⟨fun m t w' => ∃ k : Nat, t = k ∧ 1 ≤ k ∧ k ≤ xs.length ∧ w' = w ∧ m ∈ xs ∧ ∀ j (hj : j < xs.length), j < k → xs[j] ≤ m, fun _ t _ => xs.length - t.toNat, ⟨1, rfl, by omega, by omega, rfl, List.getElem_mem _, fun j hj h => by
    have : j = 0 := by omega
    subst this; omega⟩, ?_⟩
  rintro - m t w1 ⟨k, rfl, hk1, hk, rfl, hm, hall⟩
  refine hs.ln (condD (fun hlt => ?_) fun hge => ?_)
  · have hkl : k < xs.length := by omega
    refine hs.rd rfl hkl ⟨by unfold inR; omega, ⟨k + 1, by omega, by omega, by omega, rfl, ?_, fun j hj h => ?_⟩, by dsimp only; omega⟩
    · split
      · exact List.getElem_mem _
      · exact hm
    · by_cases e : j = k
      · subst e; split <;> omega
      · have := hall j hj (by omega)
        split <;> omega
  · refine ⟨m, rfl, hm, fun x hx => ?_, Grow.refl w1⟩
    obtain ⟨j, hj, rfl⟩ := List.mem_iff_getElem.1 hx
    exact hall j hj (by omega)
/-! ## Atoms and facts in memory -/
/-- A relation and arguments: two cells. -/
def repA (w : World) (cs : List Value) (a : Int × List Int) : Prop := ∃ v, cs = [.int .i64 a.1, v] ∧ SlI w v a.2
theorem repA_mono : Mono repA := fun w w' cs x hg ⟨v, h1, h2⟩ => ⟨v, h1, h2.grow hg⟩
abbrev SlA (w : World) (v : Value) (l : List (Int × List Int)) : Prop := SlX 2 repA w v l
theorem SlA.gr {w w' : World} {v : Value} {l : List (Int × List Int)} (h : SlA w v l) (hf : Grow w w') : SlA w' v l := h.grow repA_mono hf
/-- A slice of ints, as an element. -/
def repI (w : World) (cs : List Value) (x : List Int) : Prop := ∃ v, cs = [v] ∧ SlI w v x
theorem repI_mono : Mono repI := fun w w' cs x hg ⟨v, h1, h2⟩ => ⟨v, h1, h2.grow hg⟩
abbrev SlL (w : World) (v : Value) (l : List (List Int)) : Prop := SlX 1 repI w v l
theorem SlL.gr {w w' : World} {v : Value} {l : List (List Int)} (h : SlL w v l) (hf : Grow w w') : SlL w' v l := h.grow repI_mono hf
/-- A local copy of two cells reads as was set. -/
theorem two {w : World} {a : Addr} {x y : Value} (h0 : w.cell? (a.add 0) = some x) (h1 : w.cell? (a.add 1) = some y) : ∀ (j : Nat) (u : Value), [x, y][j]? = some u → w.cell? (a.add j) = some u
  | 0, u, h => by simp at h; subst h; exact h0
  | 1, u, h => by simp at h; subst h; exact h1
  | j + 2, u, h => by simp at h
end Go.Proofs.Ytmjpnfapjcfejaa
