/- Arguments: queries and facts that came in read as lists. Of no program. No condition. -/
import Derived.Test.YtleiddajojgmmaaKt
import Derived.Test.YtleiddajojgmmaaMc
import Derived.Test.YtleiddajojgmmaaProg
namespace Go.Proofs.Ytleiddajojgmmaa
open Go Go.RowKit Go.ChangeShapes Go.WideShapes VC
set_option linter.unusedSimpArgs false
set_option linter.unusedVariables false
section
variable {H : Type} {enc : TypeId × Value → H} {P : Program}

theorem flat_one (xs : List Int) : xs.flatMap (fun x => [encI x]) = xs.map encI := by
  induction xs with
  | nil => rfl
  | cons x r ih => rw [List.flatMap_cons, ih]; rfl
/-- A slice of ints, as a cell. -/
theorem trod_ints {t g : TypeId} {W : World} {fuel : Nat} {cs : List Value} {x : DataW H × List MemPlace} (ht : P.underlying t = some (.slice g)) (hg : P.underlying g = some (.int .i64)) (hc : P.cellsOf g = 1)
    (h : DataW.trod enc P W 0 (fun _ => true) true fuel t cs = some x) : ∃ v xs, cs = [v] ∧ SlI W v xs := by
  obtain ⟨v, xs, rfl, hx⟩ := trod_slX (α := Int) (k := 1) (rep := fun _ cs x => cs = [encI x]) ht hc (fun n cs x hx hl => by
    match cs, hl with
    | [c], _ =>
      obtain ⟨n0, e0, -, -⟩ := DataW.trod_int hg hx
      simp at e0
      exact ⟨n0, by rw [e0]; rfl⟩) h
  have h2 := SlX.slR (f := fun x => [encI x]) (fun _ => rfl) hx
  refine ⟨v, xs, rfl, ?_⟩
  have h3 : SlC W v xs.length (xs.flatMap fun x => [encI x]) := h2
  rw [flat_one] at h3
  exact h3
/-- A record of an int and a slice of ints. -/
theorem trod_atom {e g : TypeId} {f0 f1 : Field} {W : World} {fuel : Nat} {cs : List Value} {x : DataW H × List MemPlace} (he : P.underlying e = some (.struct #[f0, f1])) (h0 : P.underlying f0.type = some (.int .i64)) (h1 : P.underlying f1.type = some (.slice g)) (hg : P.underlying g = some (.int .i64))
    (hc : P.cellsOf g = 1) (ho : f0.offset = 0 ∧ f1.offset = 1 ∧ P.cellsOf f0.type = 1 ∧ P.cellsOf f1.type = 1) (hl : cs.length = 2) (h : DataW.trod enc P W 0 (fun _ => true) true fuel e cs = some x) : ∃ a : Int × List Int, repA W cs a := by
  obtain ⟨y0, y1, m, -, -, g0, g1⟩ := trod_struct2 he h
  match cs, hl with
  | [c0, c1], _ =>
    simp only [ho.1, ho.2.1, ho.2.2.1, ho.2.2.2] at g0 g1
    obtain ⟨n0, e0, -, -⟩ := DataW.trod_int h0 g0
    obtain ⟨v, xs, e1, hv⟩ := trod_ints h1 hg hc g1
    simp at e0 e1
    exact ⟨(n0, xs), c1, by rw [e0], by rw [e1]; exact hv⟩
/-- What the types of atoms and facts are. -/
structure AtT (P : Program) (e : TypeId) : Prop where
  ex : ∃ (g : TypeId) (f0 f1 : Field), P.underlying e = some (.struct #[f0, f1]) ∧ P.underlying f0.type = some (.int .i64) ∧ P.underlying f1.type = some (.slice g) ∧ P.underlying g = some (.int .i64) ∧ P.cellsOf g = 1 ∧ (f0.offset = 0 ∧ f1.offset = 1 ∧ P.cellsOf f0.type = 1 ∧ P.cellsOf f1.type = 1) ∧ P.cellsOf e = 2
theorem trod_atoms {t e : TypeId} {W : World} {fuel : Nat} {cs : List Value} {x : DataW H × List MemPlace} (ht : P.underlying t = some (.slice e)) (hA : AtT P e) (h : DataW.trod enc P W 0 (fun _ => true) true fuel t cs = some x) : ∃ v l, cs = [v] ∧ SlA W v l := by
  obtain ⟨g, f0, f1, he, h0, h1, hg, hc, ho, h2⟩ := hA.ex
  exact trod_slX ht h2 (fun n cs x hx hl => trod_atom he h0 h1 hg hc ho hl hx) h
/-- A slice of facts that came in. -/
theorem arg_atoms {t e : TypeId} {W : World} {base : Nat} {v : Value} {d : DataW H} {ps : List MemPlace} (ht : P.underlying t = some (.slice e)) (hA : AtT P e) (hok : Value.okWide P W .any base t v) (h : DataW.Trod enc P W 0 (fun _ => true) true t v d ps) : ∃ l, SlA W v l := by
  obtain ⟨a0, len, cap, rfl⟩ := okWide_slice ht hok
  obtain ⟨fuel, hf⟩ := trod_one rfl h
  obtain ⟨v', l, hv, hx⟩ := trod_atoms ht hA hf
  obtain rfl : Value.slice a0 len cap = v' := by simpa using hv
  exact ⟨l, hx⟩
/-- A fact that came in. -/
theorem arg_atom {t : TypeId} {W : World} {base : Nat} {v : Value} {d : DataW H} {ps : List MemPlace} (hA : AtT P t) (hok : Value.okWide P W .any base t v) (h : DataW.Trod enc P W 0 (fun _ => true) true t v d ps) : ∃ (r : Int) (u : Value) (xs : List Int), v = .agg #[.int .i64 r, u] ∧ SlI W u xs := by
  obtain ⟨g, f0, f1, he, h0, h1, hg, hc, ho, h2⟩ := hA.ex
  obtain ⟨cs, rfl, hs⟩ := okWide_struct he hok
  obtain ⟨fuel, hf⟩ := h
  have hcl : cs.toList.length = 2 := by simpa [h2] using hs
  obtain ⟨a, u, e, hu⟩ := trod_atom he h0 h1 hg hc ho hcl (by simpa [Value.cells] using hf)
  refine ⟨a.1, u, a.2, ?_, hu⟩
  have : cs = #[.int .i64 a.1, u] := by
    apply Array.ext'
    simpa using e
  rw [this]
/-- A query that came in. -/
theorem arg_query {t e : TypeId} {f0 f1 : Field} {g : TypeId} {W : World} {base : Nat} {v : Value} {d : DataW H} {ps : List MemPlace} (he : P.underlying t = some (.struct #[f0, f1])) (h0 : P.underlying f0.type = some (.slice g)) (hg : P.underlying g = some (.int .i64)) (hc : P.cellsOf g = 1)
    (h1 : P.underlying f1.type = some (.slice e)) (hA : AtT P e) (ho : f0.offset = 0 ∧ f1.offset = 1 ∧ P.cellsOf f0.type = 1 ∧ P.cellsOf f1.type = 1) (h2 : P.cellsOf t = 2)
    (hok : Value.okWide P W .any base t v) (h : DataW.Trod enc P W 0 (fun _ => true) true t v d ps) : ∃ (hv bv : Value) (hd : List Int) (b : List (Int × List Int)), v = .agg #[hv, bv] ∧ SlI W hv hd ∧ SlA W bv b := by
  obtain ⟨cs, rfl, hs⟩ := okWide_struct he hok
  obtain ⟨fuel, hf⟩ := h
  have hcl : cs.toList.length = 2 := by simpa [h2] using hs
  obtain ⟨y0, y1, m, -, -, g0, g1⟩ := trod_struct2 he (by simpa [Value.cells] using hf)
  obtain ⟨l⟩ := cs
  match l, hcl with
  | [c0, c1], _ =>
    simp only [ho.1, ho.2.1, ho.2.2.1, ho.2.2.2] at g0 g1
    obtain ⟨hv, hd, e0, hh⟩ := trod_ints h0 hg hc g0
    obtain ⟨bv, b, e1, hb⟩ := trod_atoms h1 hA g1
    simp at e0 e1
    exact ⟨c0, c1, hd, b, rfl, by rw [e0]; exact hh, by rw [e1]; exact hb⟩
end
end Go.Proofs.Ytleiddajojgmmaa

/- Arguments of this program's statements: queries, facts, slices of ints that came in. No condition. -/
namespace Go.Proofs.Ytleiddajojgmmaa
open Go Go.RowKit Go.ChangeShapes Go.WideShapes VC
set_option linter.unusedSimpArgs false
set_option linter.unusedVariables false
section
variable {H : Type} {enc : TypeId × Value → H}
theorem at_fact : AtT Try.prog 33 := ⟨3, _, _, Try.underlying33, by kernel_rfl, by kernel_rfl, by kernel_rfl, by kernel_rfl, ⟨by kernel_rfl, by kernel_rfl, by kernel_rfl, by kernel_rfl⟩, by kernel_rfl⟩
theorem at_atom : AtT Try.prog 91 := ⟨3, _, _, Try.underlying91, by kernel_rfl, by kernel_rfl, by kernel_rfl, by kernel_rfl, ⟨by kernel_rfl, by kernel_rfl, by kernel_rfl, by kernel_rfl⟩, by kernel_rfl⟩
set_option maxRecDepth 100000 in
theorem argQ {W : World} {base : Nat} {v : Value} {d : DataW H} {ps : List MemPlace} (hok : Value.okWide Try.prog W .any base 57 v) (h : DataW.Trod enc Try.prog W 0 (fun _ => true) true 57 v d ps) :
    ∃ (hv bv : Value) (hd : List Int) (b : List (Int × List Int)), v = .agg #[hv, bv] ∧ SlI W hv hd ∧ SlA W bv b :=
  arg_query (e := 91) (g := 3) Try.underlying57 (by kernel_rfl) (by kernel_rfl) (by kernel_rfl) (by kernel_rfl) at_atom ⟨by kernel_rfl, by kernel_rfl, by kernel_rfl, by kernel_rfl⟩ (by kernel_rfl) hok h
set_option maxRecDepth 100000 in
theorem argF {W : World} {base : Nat} {v : Value} {d : DataW H} {ps : List MemPlace} (hok : Value.okWide Try.prog W .any base 23 v) (h : DataW.Trod enc Try.prog W 0 (fun _ => true) true 23 v d ps) : ∃ l, SlA W v l :=
  arg_atoms (e := 33) (by kernel_rfl) at_fact hok h
set_option maxRecDepth 100000 in
theorem argOne {W : World} {base : Nat} {v : Value} {d : DataW H} {ps : List MemPlace} (hok : Value.okWide Try.prog W .any base 33 v) (h : DataW.Trod enc Try.prog W 0 (fun _ => true) true 33 v d ps) : ∃ (r : Int) (u : Value) (xs : List Int), v = .agg #[.int .i64 r, u] ∧ SlI W u xs :=
  arg_atom at_fact hok h
set_option maxRecDepth 100000 in
theorem argI {W : World} {base : Nat} {v : Value} {d : DataW H} {ps : List MemPlace} (hok : Value.okWide Try.prog W .any base 22 v) (h : DataW.Trod enc Try.prog W 0 (fun _ => true) true 22 v d ps) : ∃ xs, SlI W v xs :=
  arg_ints (e := 3) (by kernel_rfl) (by kernel_rfl) (by kernel_rfl) hok h
end
end Go.Proofs.Ytleiddajojgmmaa
