/- The order of facts, and the function that compares them: what it leaves behind is told exactly, as sorting asks. No condition. -/
import Derived.Test.YtmjpnfapjcfejaaDoorMd
import Derived.Shelf.SlSortCmp.Insertion
namespace Go.Proofs.YtmjpnfapjcfejaaDoor
open Go Go.RowKit VC
set_option linter.unusedSimpArgs false
set_option linter.unusedVariables false

/-! ## The order -/
theorem cmpI_zero {x y : Int} : cmpI x y = 0 ↔ x = y := by unfold cmpI; split <;> (try split) <;> omega
theorem cmpI_swap (x y : Int) : cmpI y x = - cmpI x y := by unfold cmpI; split <;> split <;> (try split) <;> omega
theorem cmpL_zero : ∀ {xs ys : List Int}, cmpL xs ys = 0 ↔ xs = ys
  | [], [] => by simp [cmpL]
  | [], _ :: _ => by simp [cmpL]
  | _ :: _, [] => by simp [cmpL]
  | x :: r, y :: s => by
    rw [cmpL]
    by_cases h : cmpI x y = 0
    · rw [if_pos h, cmpL_zero, cmpI_zero.1 h]; simp
    · rw [if_neg h]
      have : ¬ x = y := fun e => h (cmpI_zero.2 e)
      simp [h, this]
theorem cmpL_swap : ∀ (xs ys : List Int), cmpL ys xs = - cmpL xs ys
  | [], [] => rfl
  | [], _ :: _ => rfl
  | _ :: _, [] => rfl
  | x :: r, y :: s => by
    rw [cmpL, cmpL, cmpI_swap x y]
    by_cases h : cmpI x y = 0
    · rw [if_pos h, if_pos (by omega), cmpL_swap r s]
    · rw [if_neg h, if_neg (by omega)]
theorem cmpI_trans {x y z : Int} (h1 : cmpI x y ≤ 0) (h2 : cmpI y z ≤ 0) : cmpI x z ≤ 0 ∧ (cmpI x z = 0 → cmpI x y = 0 ∧ cmpI y z = 0) := by
  unfold cmpI at *
  refine ⟨?_, ?_⟩
  · repeat' split
    all_goals (try split at h1) <;> (try split at h2) <;> (try split at h1) <;> (try split at h2) <;> omega
  · repeat' split
    all_goals (try split at h1) <;> (try split at h2) <;> (try split at h1) <;> (try split at h2) <;> omega
theorem cmpL_trans : ∀ {xs ys zs : List Int}, cmpL xs ys ≤ 0 → cmpL ys zs ≤ 0 → cmpL xs zs ≤ 0
  | [], [], zs, _, h2 => h2
  | [], _ :: _, [], _, h2 => by simp [cmpL] at h2
  | [], _ :: _, _ :: _, _, _ => by simp [cmpL]
  | _ :: _, [], _, h1, _ => by simp [cmpL] at h1
  | _ :: _, _ :: _, [], _, h2 => by simp [cmpL] at h2
  | x :: r, y :: s, z :: t, h1, h2 => by
    rw [cmpL] at *
    have hx : cmpI x y ≤ 0 := by
      by_cases h : cmpI x y = 0
      · omega
      · rw [if_neg h] at h1; exact h1
    have hy : cmpI y z ≤ 0 := by
      by_cases h : cmpI y z = 0
      · omega
      · rw [if_neg h] at h2; exact h2
    obtain ⟨h3, h4⟩ := cmpI_trans hx hy
    by_cases h : cmpI x z = 0
    · obtain ⟨h5, h6⟩ := h4 h
      rw [if_pos h5] at h1
      rw [if_pos h6] at h2
      rw [if_pos h]
      exact cmpL_trans h1 h2
    · rw [if_neg h]; exact h3
theorem swoL {α : Type} (key : α → List Int) : Go.Sort.SWO (ltOf fun a b => cmpL (key a) (key b)) := by
  refine ⟨fun x => ?_, fun x y z h1 h2 => ?_, fun x y z h1 h2 => ?_⟩
  · have : cmpL (key x) (key x) = 0 := cmpL_zero.2 rfl
    simp [ltOf, this]
  · simp only [ltOf, decide_eq_true_eq] at *
    have h3 := cmpL_trans (xs := key x) (ys := key y) (zs := key z) (by omega) (by omega)
    refine Classical.byContradiction fun hn => ?_
    have h4 : cmpL (key x) (key z) = 0 := by omega
    rw [cmpL_zero.1 h4] at h1
    have := cmpL_swap (key z) (key y)
    omega
  · simp only [ltOf, decide_eq_false_iff_not] at *
    have e1 := cmpL_swap (key x) (key y)
    have e2 := cmpL_swap (key y) (key z)
    have e3 := cmpL_swap (key x) (key z)
    have h3 := cmpL_trans (xs := key z) (ys := key y) (zs := key x) (by omega) (by omega)
    omega
def keyA (a : Atm) : List Int := a.1 :: a.2
theorem keyA_inj {a b : Atm} (h : keyA a = keyA b) : a = b := by
  obtain ⟨r, l⟩ := a
  obtain ⟨s, m⟩ := b
  simp [keyA] at h
  rw [h.1, h.2]
def cmpA (a b : Atm) : Int := cmpL (keyA a) (keyA b)
theorem cmpA_zero {a b : Atm} : cmpA a b = 0 ↔ a = b := cmpL_zero.trans ⟨keyA_inj, fun h => by rw [h]⟩
/-! ## What is left behind -/
/-- It returns v; nothing that was there has turned, and no draw is taken back. -/
def RetD (w : World) (v : Value) : Ending → World → Prop := fun e w' => e = .returned v ∧ Grow w w' ∧ w.drawn ≤ w'.drawn
theorem growD {w w' : World} (h : Grow w w') (hd : w.drawn ≤ w'.drawn) : ∃ q os, w' = Go.Sort.grow (w.drewN q) os := by
  refine ⟨w'.drawn - w.drawn, w'.heap.extract w.heap.size w'.heap.size, ?_⟩
  have hh : w'.heap = w.heap ++ w'.heap.extract w.heap.size w'.heap.size := by
    apply Array.ext_getElem?
    intro i
    rw [Array.getElem?_append]
    split
    · rename_i hi; exact h.block i hi
    · rename_i hi
      rw [Array.getElem?_extract]
      have hs := h.size
      split
      · rename_i h2; congr 1; omega
      · rename_i h2
        exact Array.getElem?_eq_none (by simp at h2; omega)
  have e1 := h.os
  have e2 := h.tape
  have e3 := h.output
  cases w with
  | mk heap tape drawn os output =>
    cases w' with
    | mk heap' tape' drawn' os' output' =>
      dsimp only at hh e1 e2 e3 hd
      subst e1; subst e2; subst e3
      simp only [Go.Sort.grow, World.drewN]
      congr 1
      omega
theorem or_c {w : World} {v : Value} {x y : Int} (hs : SlI w v [x, y]) : Calls Tryd.prog 133 #[v] w (Same w (.int .i64 (if x = 0 then y else x))) := by
  refine f133_calls _ ?_
  refine hs.ln ⟨fun t w' => ∃ k : Nat, t = k ∧ k ≤ 2 ∧ w' = w ∧ (k = 1 → x = 0) ∧ (k = 2 → x = 0 ∧ y = 0), fun t _ => 2 - t.toNat, ⟨0, rfl, by omega, rfl, by omega, by omega⟩, ?_⟩
  rintro - t w1 ⟨k, rfl, hk, rfl, h1, h2⟩
  refine condD (fun hlt => ?_) (fun hge => ?_)
  · have hkl : k < 2 := by simp at hlt; omega
    refine hs.rd rfl hkl (condP_i (fun h => ?_) fun h => ?_)
    · rcases Nat.lt_or_ge k 1 with h3 | h3
      · have : k = 0 := by omega
        subst this
        have h : ¬ x = 0 := by simpa using h
        exact ⟨by rw [if_neg h]; rfl, rfl⟩
      · have : k = 1 := by omega
        subst this
        exact ⟨by rw [if_pos (h1 rfl)]; rfl, rfl⟩
    · rcases Nat.lt_or_ge k 1 with h3 | h3
      · have : k = 0 := by omega
        subst this
        have h : x = 0 := by simpa using h
        exact ⟨by unfold inR; omega, ⟨1, by omega, by omega, rfl, fun _ => h, by omega⟩, by dsimp only; omega⟩
      · have : k = 1 := by omega
        subst this
        have h : y = 0 := by simpa using h
        exact ⟨by unfold inR; omega, ⟨2, by omega, by omega, rfl, by omega, fun _ => ⟨h1 rfl, h⟩⟩, by dsimp only; omega⟩
  · have : k = 2 := by simp at hge; omega
    subst this
    exact ⟨by rw [if_pos (h2 rfl).1, (h2 rfl).2], rfl⟩
/-- Facts are compared. -/
theorem compareA_c {w : World} {r s : Int} {u v : Value} {xs ys : List Int} (hx : SlI w u xs) (hy : SlI w v ys) : Calls Tryd.prog 113 #[.agg #[.int .i64 r, u], .agg #[.int .i64 s, v]] w (RetD w (.int .i64 (cmpA (r, xs) (s, ys)))) := by
  refine f113_calls _ _ ?_
  refine ⟨_, rfl, fun w1 hw1 => ⟨_, rfl, fun w3 hw3 m => ?_⟩⟩
  have g1 := alloc_grow hw1
  have g3 := alloc_grow hw3
  have gm : Grow w3 (dr w3 m) := (Grow.refl w3).dr m
  have gD := (g1.trans g3).trans gm
  have d1 : w1.drawn = w.drawn := by subst hw1; rfl
  have d3 : w3.drawn = w1.drawn := by subst hw3; rfl
  have dm : w.drawn ≤ (dr w3 m).drawn := by have := m.2; show w.drawn ≤ m.1; omega
  have hxD := hx.grow gD
  have hyD := hy.grow gD
  have a0 := (g3.trans gm).cell (boxc hw1 0 _ rfl)
  have a1 := (g3.trans gm).cell (boxc hw1 1 _ rfl)
  have b0 := gm.cell (boxc hw3 0 _ rfl)
  have b1 := gm.cell (boxc hw3 1 _ rfl)
  have fin : ∀ w4, w4 = (dr w3 m).alloc (.cells #[.int .i64 (cmpI r s), .int .i64 (cmpL xs ys)] 3) → Calls Tryd.prog 133 #[.slice (some ⟨(dr w3 m).heap.size, 0, none⟩) 2 2] w4 fun e w' => ∃ t : Int, e = .returned (.int .i64 t) ∧ RetD w (.int .i64 (cmpA (r, xs) (s, ys))) (.returned (.int .i64 t)) w' := fun w4 hw4 => by
    have hl := Own.lit (B := (dr w3 m).heap.size) (n := 2) (sz := 1) hw4 (Nat.le_refl _) (by omega) (by simp)
    refine (or_c (x := cmpI r s) (y := cmpL xs ys) (Own.slI hl)).mono ?_
    rintro e w' ⟨rfl, rfl⟩
    refine ⟨_, rfl, ?_, gD.trans (alloc_grow hw4), ?_⟩
    · simp only [cmpA, keyA, cmpL]
    · have : w'.drawn = (dr w3 m).drawn := by subst hw4; rfl
      omega
  repeat' first
    | refine And.intro ?_ ?_
    | refine ⟨_, a0, ?_⟩
    | refine ⟨_, b0, ?_⟩
    | refine ⟨_, a1, ?_⟩
    | refine ⟨_, b1, ?_⟩
    | (refine cmpI_c.mono ?_; rintro e w' ⟨rfl, rfl⟩; refine ⟨_, rfl, ?_⟩)
    | (refine (compare_c hxD hyD).mono ?_; rintro e w' ⟨rfl, rfl⟩; exact ⟨_, rfl, fin⟩)
theorem eqA_c {w : World} {r s : Int} {u v : Value} {xs ys : List Int} (hx : SlI w u xs) (hy : SlI w v ys) : Calls Tryd.prog 115 #[.agg #[.int .i64 r, u], .agg #[.int .i64 s, v]] w (Ret w (.bool (decide ((r, xs) = (s, ys))))) := by
  refine f115_calls _ _ ?_
  refine ⟨_, rfl, fun w1 hw1 => ⟨_, rfl, fun w3 hw3 => ?_⟩⟩
  have g1 := alloc_grow hw1
  have g3 := alloc_grow hw3
  refine ⟨[_, _], rfl, two (g3.cell (boxc hw1 0 _ rfl)) (g3.cell (boxc hw1 1 _ rfl)), [_, _], rfl, two (boxc hw3 0 _ rfl) (boxc hw3 1 _ rfl), (compareA_c (hx.grow (g1.trans g3)) (hy.grow (g1.trans g3))).mono ?_⟩
  rintro e w4 ⟨rfl, g4, -⟩
  refine ⟨_, rfl, ?_, (g1.trans g3).trans g4⟩
  congr 2
  rw [decide_eq_decide]
  exact cmpA_zero
end Go.Proofs.YtmjpnfapjcfejaaDoor
