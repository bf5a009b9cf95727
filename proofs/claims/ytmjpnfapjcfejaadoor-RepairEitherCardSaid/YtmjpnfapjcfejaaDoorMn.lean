/- Contracts of the reference: what comes before, rising lists of slices, keys of facts, what fits. No condition. -/
import Derived.Test.YtmjpnfapjcfejaaDoorMj
import Derived.Test.YtmjpnfapjcfejaaDoorMl
import Derived.Laws.BitsLemmas
namespace Go.Proofs.YtmjpnfapjcfejaaDoor
open Go Go.RowKit VC
set_option linter.unusedSimpArgs false
set_option linter.unusedVariables false

theorem before_c {w : World} {u v : Value} {xs ys : List Int} (hx : SlI w u xs) (hy : SlI w v ys) : Calls Tryd.prog 66 #[u, v] w (Same w (.bool (decide (cmpL xs ys < 0)))) := by
  refine f66_calls _ _ ?_
  have h1 := hx.len_le
  have h2 := hy.len_le
  refine hx.ln ⟨fun t w' => ∃ k : Nat, t = k ∧ k ≤ xs.length ∧ k ≤ ys.length ∧ w' = w ∧ cmpL xs ys = cmpL (xs.drop k) (ys.drop k), fun t _ => xs.length - t.toNat, ⟨0, rfl, by omega, by omega, rfl, rfl⟩, ?_⟩
  rintro - t w1 ⟨k, rfl, hk, hk2, rfl, he⟩
  have ret : ∀ {b : Bool}, decide (cmpL xs ys < 0) = b → Same w1 (.bool (decide (cmpL xs ys < 0))) (.returned (.bool b)) w1 := fun h => ⟨by rw [h], rfl⟩
  refine condD (fun hlt => ?_) (fun hge => ?_)
  · have hkl : k < xs.length := by omega
    rw [List.drop_eq_getElem_cons hkl] at he
    refine hx.rd rfl hkl (hy.ln (condD (fun h => ret ?_) fun h => ?_))
    · have : ys.drop k = [] := List.drop_eq_nil_of_le (by omega)
      rw [this] at he
      rw [he]; rfl
    · have hkl2 : k < ys.length := by omega
      rw [List.drop_eq_getElem_cons hkl2, cmpL] at he
      refine hy.rd rfl hkl2 (condD (fun h3 => ret ?_) fun h3 => hy.rd rfl hkl2 (condD (fun h4 => ret ?_) fun h4 => ?_))
      · have e : cmpI xs[k] ys[k] = 1 := by unfold cmpI; rw [if_neg (by omega), if_pos h3]
        rw [he, e]; rfl
      · have e : cmpI xs[k] ys[k] = -1 := by unfold cmpI; rw [if_pos h4]
        rw [he, e]; rfl
      · have e : cmpI xs[k] ys[k] = 0 := by unfold cmpI; rw [if_neg (by omega), if_neg (by omega)]
        rw [if_pos e] at he
        exact ⟨by unfold inR; omega, ⟨k + 1, by omega, by omega, by omega, rfl, he⟩, by dsimp only; omega⟩
  · have hkl : k = xs.length := by omega
    subst hkl
    rw [List.drop_length] at he
    refine hx.ln (hy.ln (ret ?_))
    rw [he]
    rcases Nat.lt_or_ge xs.length ys.length with h | h
    · rw [List.drop_eq_getElem_cons h]
      have : decide ((xs.length : Int) < ys.length) = true := decide_eq_true (by omega)
      rw [this]; rfl
    · rw [List.drop_eq_nil_of_le h]
      have : decide ((xs.length : Int) < ys.length) = false := decide_eq_false (by omega)
      rw [this]; rfl
theorem refEqual_c {w : World} {u v : Value} {xs ys : List Int} (hx : SlI w u xs) (hy : SlI w v ys) : Calls Tryd.prog 34 #[u, v] w (Same w (.bool (decide (xs = ys)))) := by
  refine f34_calls _ _ ?_
  have hz := cmpL_zero (xs := xs) (ys := ys)
  have hw := cmpL_swap xs ys
  refine (before_c hx hy).mono ?_
  rintro e w1 ⟨rfl, rfl⟩
  refine ⟨_, rfl, condP_i (fun h => ?_) fun h => ?_⟩
  · have h : ¬ cmpL xs ys < 0 := by simpa using h
    refine (before_c hy hx).mono ?_
    rintro e w2 ⟨rfl, rfl⟩
    refine ⟨_, rfl, ?_, rfl⟩
    congr 2
    by_cases h2 : cmpL ys xs < 0
    · have : ¬ xs = ys := fun e => by have := hz.2 e; omega
      simp [h2, this]
    · have : xs = ys := hz.1 (by omega)
      rw [decide_eq_true this, decide_eq_false h2]; rfl
  · have h : cmpL xs ys < 0 := by simpa using h
    refine ⟨?_, rfl⟩
    have : ¬ xs = ys := fun e => by have := hz.2 e; omega
    rw [decide_eq_false this]
theorem half {a : Nat} (h : a < 4611686018427387904) : IntKind.wrap .i64 (Int.tdiv (a : Int) 2) = ((a / 2 : Nat) : Int) := by
  rw [Int.tdiv_eq_ediv_of_nonneg (by omega), IntKind.wrap_i64]; omega
/-! ## Parts of a slice -/
section
variable {α : Type} {k : Nat} {rep : World → List Value → α → Prop}
theorem SlX.upto {w : World} {v : Value} {xs : List α} (h : SlX k rep w v xs) {i : Nat} {ik : IntKind} {z : Int} (hz : z = (i : Int)) (hi : i ≤ xs.length) {K : Value → Prop} (hk : ∀ v', SlX k rep w v' (xs.take i) → K v') :
    ∃ (a : Option Addr) (n c : Nat), v = .slice a n c ∧ ∃ l hh m : Nat, sbR none (some (.int ik z)) none n c l hh m ∧ K (.slice (if m = l then a else a.map (·.add (l * k))) (hh - l) (m - l)) := by
  subst hz
  obtain ⟨a, c, rfl, h1, h2, h3, h4⟩ := h.ex
  have hl : (xs.take i).length = i := by simp; omega
  refine ⟨a, _, c, rfl, 0, i, c, ⟨rfl, rfl, rfl, by simp, by omega, by omega, by omega⟩, hk _ ⟨a, c, ?_, by omega, h2, h3, fun j hj => ?_⟩⟩
  · rw [hl]
    by_cases hc : c = 0
    · simp [hc]
    · rw [if_neg hc]
      cases a <;> simp [Addr.add]
  · obtain ⟨b, cs, e1, e2, e3, e4⟩ := h4 j (by omega)
    exact ⟨b, cs, e1, e2, e3, by rw [List.getElem_take]; exact e4⟩
theorem SlX.from_ {w : World} {v : Value} {xs : List α} (h : SlX k rep w v xs) {i : Nat} {ik : IntKind} {z : Int} (hz : z = (i : Int)) (hi : i ≤ xs.length) {K : Value → Prop} (hk : ∀ v', SlX k rep w v' (xs.drop i) → K v') :
    ∃ (a : Option Addr) (n c : Nat), v = .slice a n c ∧ ∃ l hh m : Nat, sbR (some (.int ik z)) none none n c l hh m ∧ K (.slice (if m = l then a else a.map (·.add (l * k))) (hh - l) (m - l)) := by
  subst hz
  obtain ⟨a, c, rfl, h1, h2, h3, h4⟩ := h.ex
  have hl : (xs.drop i).length = xs.length - i := by simp
  refine ⟨a, _, c, rfl, i, xs.length, c, ⟨rfl, rfl, rfl, by simp, by omega, by omega, by omega⟩, hk _ ⟨if c = i then a else a.map (·.add (i * k)), c - i, by rw [hl], by omega, by omega, ?_, fun j hj => ?_⟩⟩
  · intro hn
    split at hn
    · rename_i hc; omega
    · have : a = none := by cases a <;> simp at hn ⊢
      have := h3 this; omega
  · obtain ⟨b, cs, e1, e2, e3, e4⟩ := h4 (i + j) (by omega)
    refine ⟨b.add (i * k), cs, ?_, e2, fun t u ht => ?_, by rw [List.getElem_drop]; exact e4⟩
    · rw [if_neg (by omega), e1]; rfl
    · rw [add_add, ← Nat.add_assoc, ← Nat.add_mul]
      exact e3 t u ht
end
/-! ## Put -/
/-- A slice of ints, as an element, that reads as long as of what was there nothing but S turns. -/
def repIS (S : Nat → Prop) (w : World) (cs : List Value) (x : List Int) : Prop := ∀ w', Fr S w w' → repI w' cs x
theorem repIS_mono (S : Nat → Prop) : Mono (repIS S) := fun w w' cs x hg h w2 hf => h w2 ((Fr.of_grow hg).trans hf)
abbrev SlS (S : Nat → Prop) (w : World) (v : Value) (l : List (List Int)) : Prop := SlX 1 (repIS S) w v l
theorem SlX.imp {α : Type} {k : Nat} {rep rep' : World → List Value → α → Prop} {w : World} {v : Value} {xs : List α} (h : SlX k rep w v xs) (hi : ∀ cs x, rep w cs x → rep' w cs x) : SlX k rep' w v xs := by
  obtain ⟨a, c, e, h1, h2, h3, h4⟩ := h.ex
  exact ⟨a, c, e, h1, h2, h3, fun i hi' => by
    obtain ⟨b, cs, e1, e2, e3, e4⟩ := h4 i hi'
    exact ⟨b, cs, e1, e2, e3, hi _ _ e4⟩⟩
theorem SlS.slL {S : Nat → Prop} {w : World} {v : Value} {l : List (List Int)} (h : SlS S w v l) : SlL w v l := SlX.imp h fun cs x hx => hx w (Fr.refl _ _)
abbrev OwnB (S : Nat → Prop) (B0 : Nat) (w : World) (v : Value) (xs : List (List Int)) : Prop := OwnX (fun b => B0 ≤ b ∨ S b) 1 repI w B0 22 v xs
/-! ## Keys of facts -/
end Go.Proofs.YtmjpnfapjcfejaaDoor
