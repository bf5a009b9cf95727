/- Contracts: what fits an atom, and all matches of a query. No condition. -/
import Derived.Test.YtmjpnfapjcfejaaMe
import Derived.Test.YtmjpnfapjcfejaaVw
import Derived.Test.YtmjpnfapjcfejaaSh
import Derived.Test.YtmjpnfapjcfejaaMi
namespace Go.Proofs.Ytmjpnfapjcfejaa
open Go Go.RowKit VC
set_option linter.unusedSimpArgs false
set_option linter.unusedVariables false

/-! ## Values in memory -/
def encV (m : Vals) : List Value := (List.range 8).map fun i => encI (m.getD i 0)
theorem encV_len (m : Vals) : (encV m).length = 8 := by simp [encV]
theorem encV_one (m : Vals) : ∀ u ∈ encV m, u.oneCell' = true := by
  intro u hu
  simp only [encV, List.mem_map] at hu
  obtain ⟨i, _, rfl⟩ := hu
  rfl
abbrev SlV (w : World) (v : Value) (ms : List Vals) : Prop := SlR encV w v ms
/-! ## What fits -/
/-! ## append of one record; where its array lies -/
theorem pappRk {α : Type} {f : α → List Value} {P : Program} {t ty e : TypeId} {sz bytes : Nat} {z : Value} (hT : ElT P t e sz bytes z) (hsz : 0 < sz) (hf : ∀ x, (f x).length = sz) (h1 : ∀ x, ∀ u ∈ f x, u.oneCell' = true) {w w1 : World} {B : Nat} {v : Value} {x : α} {xs : List α}
    (hw : w1 = w.alloc (.cells (f x).toArray e)) (hown : Own w B e sz v xs.length (xs.flatMap f)) (hB : B ≤ w.heap.size) (hlen : (xs.length + 1) * bytes ≤ 140737488355328) (hb : 0 < bytes) {K : Value → World → Prop}
    (hk : ∀ v' w', Own w' B e sz v' (xs ++ [x]).length ((xs ++ [x]).flatMap f) → Fr (fun k => some k = v.ownBlock) w1 w' → (∀ k, v'.ownBlock = some k → some k = v.ownBlock ∨ w.heap.size ≤ k) → K v' w') : PApp P t ty v (.slice (some ⟨w.heap.size, 0, none⟩) 1 1) w1 K := by
  have hl := Own.lit (B := w.heap.size) (n := 1) (sz := sz) hw (Nat.le_refl _) (by omega) (by simp [hf])
  refine pappk hT hsz (hown.grow (alloc_grow hw)) hl.slC (by simp [hf]) (by simpa using h1 x) (by rw [alloc_size hw]; omega) hlen hb ?_
  intro v' w' ho hfr _ hbl
  refine hk v' w' ?_ hfr fun k hk => (hbl k hk).imp id fun h => by have := alloc_size hw; omega
  have e1 : (xs ++ [x]).length = xs.length + 1 := by simp
  have e2 : (xs ++ [x]).flatMap f = xs.flatMap f ++ (f x).toArray.toList := by simp
  rw [e1, e2]
  exact ho
end Go.Proofs.Ytmjpnfapjcfejaa
