/- Arguments of this program's statements: queries, facts, slices of ints that came in. No condition. -/
import Derived.Test.YtddpjdlhgggbkaaKq
import Derived.Test.YtddpjdlhgggbkaaProg
namespace Go.Proofs.Ytddpjdlhgggbkaa
open Go Go.RowKit Go.ChangeShapes Go.WideShapes VC
set_option linter.unusedSimpArgs false
set_option linter.unusedVariables false
section
variable {H : Type} {enc : TypeId × Value → H}
theorem at_fact : AtT Try.prog 64 := ⟨3, _, _, Try.underlying64, by kernel_rfl, by kernel_rfl, by kernel_rfl, by kernel_rfl, ⟨by kernel_rfl, by kernel_rfl, by kernel_rfl, by kernel_rfl⟩, by kernel_rfl⟩
theorem at_atom : AtT Try.prog 54 := ⟨3, _, _, Try.underlying54, by kernel_rfl, by kernel_rfl, by kernel_rfl, by kernel_rfl, ⟨by kernel_rfl, by kernel_rfl, by kernel_rfl, by kernel_rfl⟩, by kernel_rfl⟩
set_option maxRecDepth 100000 in
theorem argQ {W : World} {base : Nat} {v : Value} {d : DataW H} {ps : List MemPlace} (hok : Value.okWide Try.prog W .any base 25 v) (h : DataW.Trod enc Try.prog W 0 (fun _ => true) true 25 v d ps) :
    ∃ (hv bv : Value) (hd : List Int) (b : List (Int × List Int)), v = .agg #[hv, bv] ∧ SlI W hv hd ∧ SlA W bv b :=
  arg_query (e := 54) (g := 3) Try.underlying25 (by kernel_rfl) (by kernel_rfl) (by kernel_rfl) (by kernel_rfl) at_atom ⟨by kernel_rfl, by kernel_rfl, by kernel_rfl, by kernel_rfl⟩ (by kernel_rfl) hok h
set_option maxRecDepth 100000 in
theorem argF {W : World} {base : Nat} {v : Value} {d : DataW H} {ps : List MemPlace} (hok : Value.okWide Try.prog W .any base 26 v) (h : DataW.Trod enc Try.prog W 0 (fun _ => true) true 26 v d ps) : ∃ l, SlA W v l :=
  arg_atoms (e := 64) (by kernel_rfl) at_fact hok h
set_option maxRecDepth 100000 in
theorem argOne {W : World} {base : Nat} {v : Value} {d : DataW H} {ps : List MemPlace} (hok : Value.okWide Try.prog W .any base 64 v) (h : DataW.Trod enc Try.prog W 0 (fun _ => true) true 64 v d ps) : ∃ (r : Int) (u : Value) (xs : List Int), v = .agg #[.int .i64 r, u] ∧ SlI W u xs :=
  arg_atom at_fact hok h
set_option maxRecDepth 100000 in
theorem argI {W : World} {base : Nat} {v : Value} {d : DataW H} {ps : List MemPlace} (hok : Value.okWide Try.prog W .any base 22 v) (h : DataW.Trod enc Try.prog W 0 (fun _ => true) true 22 v d ps) : ∃ xs, SlI W v xs :=
  arg_ints (e := 3) (by kernel_rfl) (by kernel_rfl) (by kernel_rfl) hok h
end
end Go.Proofs.Ytddpjdlhgggbkaa
