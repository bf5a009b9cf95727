/- Contracts: facts are cloned, and put together where neighbours are equal. No condition. -/
import Derived.Test.YtmjpnfapjcfejaaMe
import Derived.Test.YtmjpnfapjcfejaaVw
namespace Go.Proofs.Ytmjpnfapjcfejaa
open Go Go.RowKit VC
set_option linter.unusedSimpArgs false
set_option linter.unusedVariables false

/-- An own slice of facts whose arguments are older than block B. -/
abbrev OwnO (B0 : Nat) (w : World) (B : Nat) (v : Value) (l : List Atm) : Prop := OwnX (fun b => B0 ≤ b) 2 repA w B 58 v l
theorem repA_one {w : World} {cs : List Value} {a : Atm} (h : repA w cs a) : ∀ u ∈ cs, u.oneCell' = true := by
  obtain ⟨v, rfl, hv⟩ := h
  intro u hu
  simp at hu
  rcases hu with rfl | rfl
  · rfl
  · exact hv.one.2
/-- What holds between the rounds of CompactFunc, once two neighbours were equal: k kept, the rest from place k on as it was. -/
structure CpI (T : Nat → Prop) (w : World) (B g n cap : Nat) (l : List Atm) (ps : List (List Value × Atm)) (k j : Nat) (w' : World) (qs : List (List Value × Atm)) : Prop where
  len : qs.length = n
  kept : (qs.take k).map Prod.snd = dd (l.take j)
  rest : ∀ i, k ≤ i → qs[i]? = ps[i]?
  el : ∀ q ∈ qs, ElX T 2 repA (.slice (some ⟨g, 0, none⟩) n cap) w' q
  own : Own w' B 58 2 (.slice (some ⟨g, 0, none⟩) n cap) n (qs.flatMap Prod.fst)
  fr : Fr (fun b => b = g) w w'
theorem app2 (a b : Value) : (#[] ++ #[a, b] ++ #[] : Array Value) = #[a, b] := rfl
theorem rec_at {w : World} {B g n cap : Nat} {t : TypeId} {qs : List (List Value × Atm)} (hl : ∀ q ∈ qs, q.1.length = 2) (ho : Own w B t 2 (.slice (some ⟨g, 0, none⟩) n cap) n (qs.flatMap Prod.fst)) {i : Nat} (hi : i < qs.length) : ∀ (j : Nat) (u : Value), (qs[i].1)[j]? = some u → w.cell? ⟨g, i * 2 + j, none⟩ = some u := by
  intro j u hj
  have hjk : j < 2 := by
    have h1 := (List.getElem?_eq_some_iff.1 hj).1
    have h2 := hl _ (List.getElem_mem hi)
    omega
  have hc := World.ownsRow.cells (g := g) ho rfl (i * 2 + j) u (by rw [flat_get' hl hi hjk]; exact hj)
  rwa [Addr.add0] at hc
end Go.Proofs.Ytmjpnfapjcfejaa
