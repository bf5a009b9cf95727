/- Contracts of the reference: all matches, results and their number. No condition. -/
import Derived.Test.YtddpjdlhgggbkaaMo
import Derived.Test.YtddpjdlhgggbkaaMm
namespace Go.Proofs.Ytddpjdlhgggbkaa
open Go Go.RowKit VC
set_option linter.unusedSimpArgs false
set_option linter.unusedVariables false

abbrev OwnW (w : World) (B : Nat) (v : Value) (ms : List Vals) : Prop := Own w B 58 8 v ms.length (ms.flatMap encV)
theorem OwnW.slV {w : World} {B : Nat} {v : Value} {ms : List Vals} (h : OwnW w B v ms) : SlV w v ms := Own.slR h
end Go.Proofs.Ytddpjdlhgggbkaa
