/- Contracts: all matches of a query. No condition. -/
import Derived.Test.YtmjpnfapjcfejaaMj
namespace Go.Proofs.Ytmjpnfapjcfejaa
open Go Go.RowKit VC Go.WideMaps
set_option linter.unusedSimpArgs false
set_option linter.unusedVariables false

/-- A local copy of eight numbers. -/
theorem SlV.loc {P : Program} {w : World} {v : Value} {ms : List Vals} (h : SlV w v ms) {i : Nat} {j : Int} (hj : j = (i : Int)) (hi : i < ms.length) {zs : Array Value} (hz : zs.size = 8) {t : TypeId} {K : World → Prop}
    (hk : ∀ w2, Grow w w2 → w.heap.size < w2.heap.size → RecV w2 w.heap.size (encV ms[i]) → K w2) :
    ∃ (a : Addr) (m c : Nat), v = .slice (some a) m c ∧ ((0 : Int) ≤ j ∧ j < (m : Int)) ∧ ∃ cs : List Value, cs.length = 8 ∧ (∀ t u, cs[t]? = some u → w.cell? (Addr.add (a.add (Int.toNat j * 8)) t) = some u) ∧
      ∀ w1, w1 = w.alloc (.cells zs t) → ∃ cs' : Array Value, (Value.agg cs.toArray) = Value.agg cs' ∧ cs'.size = 8 ∧ ∃ w2 : World, (storeCells ⟨w.heap.size, 0, none⟩ cs'.toList).run P w1 = .ok () w2 ∧ K w2 := by
  refine SlR.rd h encV_len hj hi fun w1 hw1 => ?_
  have := RecV.init (P := P) (cs := encV ms[i]) hw1 (by rw [hz, encV_len]) (encV_one _) (K := K) hk
  rwa [hz] at this
end Go.Proofs.Ytmjpnfapjcfejaa
