/- Contracts of the reference: what fits. No condition. -/
import Derived.Test.YtmjpnfapjcfejaaDoorMn
import Derived.Test.YtmjpnfapjcfejaaDoorMk
import Derived.Test.YtmjpnfapjcfejaaDoorMm
namespace Go.Proofs.YtmjpnfapjcfejaaDoor
open Go Go.RowKit VC
set_option linter.unusedSimpArgs false
set_option linter.unusedVariables false

/-- The end of a slice of ints. -/
theorem SlI.from_ {w : World} {v : Value} {xs : List Int} (h : SlI w v xs) {i : Nat} {ik : IntKind} {z : Int} (hz : z = (i : Int)) (hi : i ≤ xs.length) {K : Value → Prop} (hk : ∀ v', SlI w v' (xs.drop i) → K v') :
    ∃ (a : Option Addr) (n c : Nat), v = .slice a n c ∧ ∃ l hh m : Nat, sbR (some (.int ik z)) none none n c l hh m ∧ K (.slice (if m = l then a else a.map (·.add (l * 1))) (hh - l) (m - l)) := by
  subst hz
  obtain ⟨a, c, rfl, h1, h2, h3, h4⟩ := h.ex
  have hl : (xs.drop i).length = xs.length - i := by simp
  refine ⟨a, _, c, rfl, i, xs.length, c, ⟨rfl, rfl, rfl, by simp, by omega, by omega, by omega⟩, hk _ ?_⟩
  unfold SlI
  rw [hl]
  refine ⟨if c = i then a else a.map (·.add (i * 1)), c - i, rfl, by omega, by omega, ?_, fun j u hj => ?_⟩
  · intro hn
    split at hn
    · rename_i hc; omega
    · have : a = none := by cases a <;> simp at hn ⊢
      have := h3 this; omega
  · have hj2 : (xs.map encI)[i + j]? = some u := by
      rw [List.map_drop, List.getElem?_drop] at hj
      exact hj
    have hlt := (List.getElem?_eq_some_iff.1 hj2).1
    simp at hlt
    obtain ⟨b, rfl, hc⟩ := h4 (i + j) u hj2
    refine ⟨b.add (i * 1), ?_, ?_⟩
    · rw [if_neg (by omega)]; rfl
    · rw [add_add, Nat.mul_one]; exact hc
theorem set_same {m : Vals} {k : Nat} {y : Int} (hk : k < m.length) (h : m.getD k 0 = y) : m.set k y = m := by
  apply List.ext_getElem (by simp)
  intro i h1 h2
  rw [List.getElem_set]
  split
  · rename_i e
    subst e
    rw [← h]; simp [List.getD, hk]
  · rfl
end Go.Proofs.YtmjpnfapjcfejaaDoor

/- Contracts of the reference: all matches, results and their number. No condition. -/
namespace Go.Proofs.YtmjpnfapjcfejaaDoor
open Go Go.RowKit VC
set_option linter.unusedSimpArgs false
set_option linter.unusedVariables false

theorem ins_map {x : Atm} : ∀ {L : List Atm}, insK id (keyA x) (L.map keyA) = (insK keyA x L).map keyA
  | [] => rfl
  | y :: r => by
    simp only [List.map_cons, insK, id]
    split
    · rw [List.map_cons, ins_map]
    · split <;> rfl
theorem str_map {L : List Atm} (h : StrK keyA L) : StrK id (L.map keyA) := by
  unfold StrK
  rw [List.pairwise_map]
  exact h
abbrev OwnW (w : World) (B : Nat) (v : Value) (ms : List Vals) : Prop := Own w B 41 8 v ms.length (ms.flatMap encV)
theorem OwnW.slV {w : World} {B : Nat} {v : Value} {ms : List Vals} (h : OwnW w B v ms) : SlV w v ms := Own.slR h
/-- Between the rounds over the keys. -/
structure InK (w43 : World) (C : Nat) (fs : List Atm) (ms : List Vals) (a : Atm) (i j : Nat) (hi : i < ms.length) (next : Value) (w' : World) (N : List Vals) : Prop where
  eq : N = stepM fs (ms.take i) a ++ (fs.take j).filterMap (fitA ms[i] a)
  few : N.length ≤ 20000 + j
  own : OwnW w' w43.heap.size next N
  off : ∀ b, next.ownBlock = some b → b ≠ C
  rc : RecV w' C (encV ms[i])
  fr : Fr (fun b => w43.heap.size ≤ b) w43 w'
/-- All matches, or that there are too many: error 3. -/
def MatE (w : World) (o : Option (List Vals)) : Ending → World → Prop := fun e w' => Grow w w' ∧ ((∃ v ms, e = .returned (.tuple #[v, .int .i64 0]) ∧ o = some ms ∧ SlV w' v ms) ∨ (e = .returned (.tuple #[.slice none 0 0, .int .i64 3]) ∧ o = none))
end Go.Proofs.YtmjpnfapjcfejaaDoor
