/-
  No cell of these rows narrows 'for every input' (looked for: loops, veiled, ifaces, maps, wideKeys, modest, calm, conditions, laid).
  DERIVED. THE GIVEN ROWS OF THIS SEAT. 10 by the template 'for every input the law returns true; each argument reads behind the call as it read before'; 0 by the template 'total and deterministic' (their statements: YtjkphmbjdleppaaTotals.lean).
  GIVEN WITH THE SEED: the statements are not yours to turn. If you find one false, say at which input.
  Laid BY PROGRAM, IN A SANDBOX (cutbox-rows.mjs): the forced cells as the released guide's own fill.sh prints them over the translation 1196f77d49112adb… (all of the seat's roots in one cut). By AI agents, Wed Nov 11 2026. No macro, syntax, notation, axiom, sorry.
-/
import Derived.Test.YtjkphmbjdleppaaChecked
import GoSem.Claim
import GoSem.ClaimJoined
import GoSem.ClaimMapViews
import Derived.JoinedTies
import Derived.KernelRfl
namespace Go.Proofs.Ytjkphmbjdleppaa
/- THE CELL 'sum', in the pinned program and in every row, IS THE sha256 OF THE DUMP (.gsa) THAT YtjkphmbjdleppaaProg.lean LOADS. Nothing in Lean hashes anything: it is a label: what it is worth is what the hold of that sum in a sandbox is worth. -/
noncomputable def Try.pinned : Pinned := { name := "ytjkphmbjdleppaa", sum := "1196f77d49112adb46b1e7739c388e8aa2627f5b4c4eaf3c6bd9bb258d4b1987", checked := Try.checked }
namespace Rows
def none {H : Type} : Left H := { results := [], args := [] }

/-- 'cubeblaw02.MatchResults': WHATEVER THE INPUT: true; the input reads as it did. -/
def matchResultsSpec : ChangeSpec := { name := "matchResults", fn := fun _ => fun
  | [d1, d2] => { results := [.lit (.bool true)], args := [d1, d2] }
  | _ => none }
def matchResultsRow : OpenClaim := { program := "ytjkphmbjdleppaa", sum := "1196f77d49112adb46b1e7739c388e8aa2627f5b4c4eaf3c6bd9bb258d4b1987", func := "cubeb/cubeblaw02.MatchResults", spec := "matchResults", unfollowed := true, recurses := true, plainKeys := false, apart := false }
def MatchResultsSaid : Prop := matchResultsRow.holds Try.pinned (OpenSpec.ofChange matchResultsSpec)

/-- ITS FALSE NEIGHBOUR: 'it returns false'. Refute it at one input. -/
def matchResultsWrong : ChangeSpec := { name := "matchResults", fn := fun _ => fun
  | [d1, d2] => { results := [.lit (.bool false)], args := [d1, d2] }
  | _ => none }
def MatchResultsWrongFalsely : Prop := matchResultsRow.holds Try.pinned (OpenSpec.ofChange matchResultsWrong)

/-- 'cubeblaw02.MatchProducts': WHATEVER THE INPUT: true; the input reads as it did. -/
def matchProductsSpec : ChangeSpec := { name := "matchProducts", fn := fun _ => fun
  | [d1, d2, d3] => { results := [.lit (.bool true)], args := [d1, d2, d3] }
  | _ => none }
def matchProductsRow : OpenClaim := { program := "ytjkphmbjdleppaa", sum := "1196f77d49112adb46b1e7739c388e8aa2627f5b4c4eaf3c6bd9bb258d4b1987", func := "cubeb/cubeblaw02.MatchProducts", spec := "matchProducts", unfollowed := true, recurses := true, plainKeys := false, apart := false }
def MatchProductsSaid : Prop := matchProductsRow.holds Try.pinned (OpenSpec.ofChange matchProductsSpec)

/-- ITS FALSE NEIGHBOUR: 'it returns false'. Refute it at one input. -/
def matchProductsWrong : ChangeSpec := { name := "matchProducts", fn := fun _ => fun
  | [d1, d2, d3] => { results := [.lit (.bool false)], args := [d1, d2, d3] }
  | _ => none }
def MatchProductsWrongFalsely : Prop := matchProductsRow.holds Try.pinned (OpenSpec.ofChange matchProductsWrong)

/-- 'cubeblaw02.MatchMore': WHATEVER THE INPUT: true; the input reads as it did. -/
def matchMoreSpec : ChangeSpec := { name := "matchMore", fn := fun _ => fun
  | [d1, d2, d3] => { results := [.lit (.bool true)], args := [d1, d2, d3] }
  | _ => none }
def matchMoreRow : OpenClaim := { program := "ytjkphmbjdleppaa", sum := "1196f77d49112adb46b1e7739c388e8aa2627f5b4c4eaf3c6bd9bb258d4b1987", func := "cubeb/cubeblaw02.MatchMore", spec := "matchMore", unfollowed := true, recurses := true, plainKeys := false, apart := false }
def MatchMoreSaid : Prop := matchMoreRow.holds Try.pinned (OpenSpec.ofChange matchMoreSpec)

/-- ITS FALSE NEIGHBOUR: 'it returns false'. Refute it at one input. -/
def matchMoreWrong : ChangeSpec := { name := "matchMore", fn := fun _ => fun
  | [d1, d2, d3] => { results := [.lit (.bool false)], args := [d1, d2, d3] }
  | _ => none }
def MatchMoreWrongFalsely : Prop := matchMoreRow.holds Try.pinned (OpenSpec.ofChange matchMoreWrong)

/-- 'cubeblaw02.MatchReduces': WHATEVER THE INPUT: true; the input reads as it did. -/
def matchReducesSpec : ChangeSpec := { name := "matchReduces", fn := fun _ => fun
  | [d1, d2] => { results := [.lit (.bool true)], args := [d1, d2] }
  | _ => none }
def matchReducesRow : OpenClaim := { program := "ytjkphmbjdleppaa", sum := "1196f77d49112adb46b1e7739c388e8aa2627f5b4c4eaf3c6bd9bb258d4b1987", func := "cubeb/cubeblaw02.MatchReduces", spec := "matchReduces", unfollowed := true, recurses := true, plainKeys := false, apart := false }
def MatchReducesSaid : Prop := matchReducesRow.holds Try.pinned (OpenSpec.ofChange matchReducesSpec)

/-- ITS FALSE NEIGHBOUR: 'it returns false'. Refute it at one input. -/
def matchReducesWrong : ChangeSpec := { name := "matchReduces", fn := fun _ => fun
  | [d1, d2] => { results := [.lit (.bool false)], args := [d1, d2] }
  | _ => none }
def MatchReducesWrongFalsely : Prop := matchReducesRow.holds Try.pinned (OpenSpec.ofChange matchReducesWrong)

/-- 'cubeblaw02.MatchReduced': WHATEVER THE INPUT: true; the input reads as it did. -/
def matchReducedSpec : ChangeSpec := { name := "matchReduced", fn := fun _ => fun
  | [d1, d2] => { results := [.lit (.bool true)], args := [d1, d2] }
  | _ => none }
def matchReducedRow : OpenClaim := { program := "ytjkphmbjdleppaa", sum := "1196f77d49112adb46b1e7739c388e8aa2627f5b4c4eaf3c6bd9bb258d4b1987", func := "cubeb/cubeblaw02.MatchReduced", spec := "matchReduced", unfollowed := true, recurses := true, plainKeys := false, apart := false }
def MatchReducedSaid : Prop := matchReducedRow.holds Try.pinned (OpenSpec.ofChange matchReducedSpec)

/-- ITS FALSE NEIGHBOUR: 'it returns false'. Refute it at one input. -/
def matchReducedWrong : ChangeSpec := { name := "matchReduced", fn := fun _ => fun
  | [d1, d2] => { results := [.lit (.bool false)], args := [d1, d2] }
  | _ => none }
def MatchReducedWrongFalsely : Prop := matchReducedRow.holds Try.pinned (OpenSpec.ofChange matchReducedWrong)

/-- 'cubeblaw02.MatchHoms': WHATEVER THE INPUT: true; the input reads as it did. -/
def matchHomsSpec : ChangeSpec := { name := "matchHoms", fn := fun _ => fun
  | [d1, d2, d3] => { results := [.lit (.bool true)], args := [d1, d2, d3] }
  | _ => none }
def matchHomsRow : OpenClaim := { program := "ytjkphmbjdleppaa", sum := "1196f77d49112adb46b1e7739c388e8aa2627f5b4c4eaf3c6bd9bb258d4b1987", func := "cubeb/cubeblaw02.MatchHoms", spec := "matchHoms", unfollowed := true, recurses := true, plainKeys := false, apart := false }
def MatchHomsSaid : Prop := matchHomsRow.holds Try.pinned (OpenSpec.ofChange matchHomsSpec)

/-- ITS FALSE NEIGHBOUR: 'it returns false'. Refute it at one input. -/
def matchHomsWrong : ChangeSpec := { name := "matchHoms", fn := fun _ => fun
  | [d1, d2, d3] => { results := [.lit (.bool false)], args := [d1, d2, d3] }
  | _ => none }
def MatchHomsWrongFalsely : Prop := matchHomsRow.holds Try.pinned (OpenSpec.ofChange matchHomsWrong)

/-- 'cubeblaw02.MatchMaps': WHATEVER THE INPUT: true; the input reads as it did. -/
def matchMapsSpec : ChangeSpec := { name := "matchMaps", fn := fun _ => fun
  | [d1, d2, d3, d4] => { results := [.lit (.bool true)], args := [d1, d2, d3, d4] }
  | _ => none }
def matchMapsRow : OpenClaim := { program := "ytjkphmbjdleppaa", sum := "1196f77d49112adb46b1e7739c388e8aa2627f5b4c4eaf3c6bd9bb258d4b1987", func := "cubeb/cubeblaw02.MatchMaps", spec := "matchMaps", unfollowed := true, recurses := true, plainKeys := false, apart := false }
def MatchMapsSaid : Prop := matchMapsRow.holds Try.pinned (OpenSpec.ofChange matchMapsSpec)

/-- ITS FALSE NEIGHBOUR: 'it returns false'. Refute it at one input. -/
def matchMapsWrong : ChangeSpec := { name := "matchMaps", fn := fun _ => fun
  | [d1, d2, d3, d4] => { results := [.lit (.bool false)], args := [d1, d2, d3, d4] }
  | _ => none }
def MatchMapsWrongFalsely : Prop := matchMapsRow.holds Try.pinned (OpenSpec.ofChange matchMapsWrong)

/-- 'cubeblaw02.MatchChains': WHATEVER THE INPUT: true; the input reads as it did. -/
def matchChainsSpec : ChangeSpec := { name := "matchChains", fn := fun _ => fun
  | [d1, d2, d3] => { results := [.lit (.bool true)], args := [d1, d2, d3] }
  | _ => none }
def matchChainsRow : OpenClaim := { program := "ytjkphmbjdleppaa", sum := "1196f77d49112adb46b1e7739c388e8aa2627f5b4c4eaf3c6bd9bb258d4b1987", func := "cubeb/cubeblaw02.MatchChains", spec := "matchChains", unfollowed := true, recurses := true, plainKeys := false, apart := false }
def MatchChainsSaid : Prop := matchChainsRow.holds Try.pinned (OpenSpec.ofChange matchChainsSpec)

/-- ITS FALSE NEIGHBOUR: 'it returns false'. Refute it at one input. -/
def matchChainsWrong : ChangeSpec := { name := "matchChains", fn := fun _ => fun
  | [d1, d2, d3] => { results := [.lit (.bool false)], args := [d1, d2, d3] }
  | _ => none }
def MatchChainsWrongFalsely : Prop := matchChainsRow.holds Try.pinned (OpenSpec.ofChange matchChainsWrong)

/-- 'cubeblaw02.MatchFrozen': WHATEVER THE INPUT: true; the input reads as it did. -/
def matchFrozenSpec : ChangeSpec := { name := "matchFrozen", fn := fun _ => fun
  | [d1, d2, d3] => { results := [.lit (.bool true)], args := [d1, d2, d3] }
  | _ => none }
def matchFrozenRow : OpenClaim := { program := "ytjkphmbjdleppaa", sum := "1196f77d49112adb46b1e7739c388e8aa2627f5b4c4eaf3c6bd9bb258d4b1987", func := "cubeb/cubeblaw02.MatchFrozen", spec := "matchFrozen", unfollowed := true, recurses := true, plainKeys := false, apart := false }
def MatchFrozenSaid : Prop := matchFrozenRow.holds Try.pinned (OpenSpec.ofChange matchFrozenSpec)

/-- ITS FALSE NEIGHBOUR: 'it returns false'. Refute it at one input. -/
def matchFrozenWrong : ChangeSpec := { name := "matchFrozen", fn := fun _ => fun
  | [d1, d2, d3] => { results := [.lit (.bool false)], args := [d1, d2, d3] }
  | _ => none }
def MatchFrozenWrongFalsely : Prop := matchFrozenRow.holds Try.pinned (OpenSpec.ofChange matchFrozenWrong)

/-- 'cubeblaw02.MatchCored': WHATEVER THE INPUT: true; the input reads as it did. -/
def matchCoredSpec : ChangeSpec := { name := "matchCored", fn := fun _ => fun
  | [d1, d2] => { results := [.lit (.bool true)], args := [d1, d2] }
  | _ => none }
def matchCoredRow : OpenClaim := { program := "ytjkphmbjdleppaa", sum := "1196f77d49112adb46b1e7739c388e8aa2627f5b4c4eaf3c6bd9bb258d4b1987", func := "cubeb/cubeblaw02.MatchCored", spec := "matchCored", unfollowed := true, recurses := true, plainKeys := false, apart := false }
def MatchCoredSaid : Prop := matchCoredRow.holds Try.pinned (OpenSpec.ofChange matchCoredSpec)

/-- ITS FALSE NEIGHBOUR: 'it returns false'. Refute it at one input. -/
def matchCoredWrong : ChangeSpec := { name := "matchCored", fn := fun _ => fun
  | [d1, d2] => { results := [.lit (.bool false)], args := [d1, d2] }
  | _ => none }
def MatchCoredWrongFalsely : Prop := matchCoredRow.holds Try.pinned (OpenSpec.ofChange matchCoredWrong)

/- THE SECOND FORM. 'bulk': how many values and letters a reading holds, each counted each time it is reached (what is shared counts as often as it is met; a slice's spare places count too). A statement '..UptoSaid' is the law's where the arguments, and the package variables that the reading takes, are together of bulk at most 1048576: NARROWER than '..Said'. Prove '..Said' where nothing that the law and all that it calls make is longer than what came in: it says more and counts as full. Else prove '..UptoSaid'. A law counts once. -/
mutual
def uptoBulk {H : Type} : DataW H → Nat
  | .lit (.string bytes) => bytes.length + 1
  | .lit _ => 1
  | .nil => 1
  | .ptr d => uptoBulk d + 1
  | .slice elems spare => uptoBulkAll elems + uptoBulkAll spare + 1
  | .agg parts => uptoBulkAll parts + 1
  | .iface _ d => uptoBulk d + 1
  | .map entries => uptoBulkEntries entries + 1
  | .held _ => 1
def uptoBulkAll {H : Type} : List (DataW H) → Nat
  | [] => 0
  | d :: r => uptoBulk d + uptoBulkAll r
def uptoBulkEntries {H : Type} : List (Lit × DataW H) → Nat
  | [] => 0
  | x :: r => uptoBulkEntry x + uptoBulkEntries r
def uptoBulkEntry {H : Type} : Lit × DataW H → Nat
  | (.string bytes, d) => bytes.length + uptoBulk d + 1
  | (_, d) => uptoBulk d + 1
 end
def uptoSmall : (H : Type) → List (DataW H) → Bool := fun _ ds => decide (uptoBulkAll ds ≤ 1048576)
def OpenSpec.upto (s : _root_.Go.ChangeSpec) : _root_.Go.OpenSpec := { _root_.Go.OpenSpec.ofChange s with cond := some uptoSmall }

/-- 'cubeblaw02.MatchResults', WHERE WHAT IT READS IS OF BULK AT MOST 1048576: true; the input reads as it did. -/
def matchResultsUptoRow : OpenClaim := { program := "ytjkphmbjdleppaa", sum := "1196f77d49112adb46b1e7739c388e8aa2627f5b4c4eaf3c6bd9bb258d4b1987", func := "cubeb/cubeblaw02.MatchResults", spec := "matchResults", unfollowed := true, recurses := true, plainKeys := false, apart := false, narrowed := true }
def MatchResultsUptoSaid : Prop := matchResultsUptoRow.holds Try.pinned (OpenSpec.upto matchResultsSpec)

/-- 'cubeblaw02.MatchProducts', WHERE WHAT IT READS IS OF BULK AT MOST 1048576: true; the input reads as it did. -/
def matchProductsUptoRow : OpenClaim := { program := "ytjkphmbjdleppaa", sum := "1196f77d49112adb46b1e7739c388e8aa2627f5b4c4eaf3c6bd9bb258d4b1987", func := "cubeb/cubeblaw02.MatchProducts", spec := "matchProducts", unfollowed := true, recurses := true, plainKeys := false, apart := false, narrowed := true }
def MatchProductsUptoSaid : Prop := matchProductsUptoRow.holds Try.pinned (OpenSpec.upto matchProductsSpec)

/-- 'cubeblaw02.MatchMore', WHERE WHAT IT READS IS OF BULK AT MOST 1048576: true; the input reads as it did. -/
def matchMoreUptoRow : OpenClaim := { program := "ytjkphmbjdleppaa", sum := "1196f77d49112adb46b1e7739c388e8aa2627f5b4c4eaf3c6bd9bb258d4b1987", func := "cubeb/cubeblaw02.MatchMore", spec := "matchMore", unfollowed := true, recurses := true, plainKeys := false, apart := false, narrowed := true }
def MatchMoreUptoSaid : Prop := matchMoreUptoRow.holds Try.pinned (OpenSpec.upto matchMoreSpec)

/-- 'cubeblaw02.MatchReduces', WHERE WHAT IT READS IS OF BULK AT MOST 1048576: true; the input reads as it did. -/
def matchReducesUptoRow : OpenClaim := { program := "ytjkphmbjdleppaa", sum := "1196f77d49112adb46b1e7739c388e8aa2627f5b4c4eaf3c6bd9bb258d4b1987", func := "cubeb/cubeblaw02.MatchReduces", spec := "matchReduces", unfollowed := true, recurses := true, plainKeys := false, apart := false, narrowed := true }
def MatchReducesUptoSaid : Prop := matchReducesUptoRow.holds Try.pinned (OpenSpec.upto matchReducesSpec)

/-- 'cubeblaw02.MatchReduced', WHERE WHAT IT READS IS OF BULK AT MOST 1048576: true; the input reads as it did. -/
def matchReducedUptoRow : OpenClaim := { program := "ytjkphmbjdleppaa", sum := "1196f77d49112adb46b1e7739c388e8aa2627f5b4c4eaf3c6bd9bb258d4b1987", func := "cubeb/cubeblaw02.MatchReduced", spec := "matchReduced", unfollowed := true, recurses := true, plainKeys := false, apart := false, narrowed := true }
def MatchReducedUptoSaid : Prop := matchReducedUptoRow.holds Try.pinned (OpenSpec.upto matchReducedSpec)

/-- 'cubeblaw02.MatchHoms', WHERE WHAT IT READS IS OF BULK AT MOST 1048576: true; the input reads as it did. -/
def matchHomsUptoRow : OpenClaim := { program := "ytjkphmbjdleppaa", sum := "1196f77d49112adb46b1e7739c388e8aa2627f5b4c4eaf3c6bd9bb258d4b1987", func := "cubeb/cubeblaw02.MatchHoms", spec := "matchHoms", unfollowed := true, recurses := true, plainKeys := false, apart := false, narrowed := true }
def MatchHomsUptoSaid : Prop := matchHomsUptoRow.holds Try.pinned (OpenSpec.upto matchHomsSpec)

/-- 'cubeblaw02.MatchMaps', WHERE WHAT IT READS IS OF BULK AT MOST 1048576: true; the input reads as it did. -/
def matchMapsUptoRow : OpenClaim := { program := "ytjkphmbjdleppaa", sum := "1196f77d49112adb46b1e7739c388e8aa2627f5b4c4eaf3c6bd9bb258d4b1987", func := "cubeb/cubeblaw02.MatchMaps", spec := "matchMaps", unfollowed := true, recurses := true, plainKeys := false, apart := false, narrowed := true }
def MatchMapsUptoSaid : Prop := matchMapsUptoRow.holds Try.pinned (OpenSpec.upto matchMapsSpec)

/-- 'cubeblaw02.MatchChains', WHERE WHAT IT READS IS OF BULK AT MOST 1048576: true; the input reads as it did. -/
def matchChainsUptoRow : OpenClaim := { program := "ytjkphmbjdleppaa", sum := "1196f77d49112adb46b1e7739c388e8aa2627f5b4c4eaf3c6bd9bb258d4b1987", func := "cubeb/cubeblaw02.MatchChains", spec := "matchChains", unfollowed := true, recurses := true, plainKeys := false, apart := false, narrowed := true }
def MatchChainsUptoSaid : Prop := matchChainsUptoRow.holds Try.pinned (OpenSpec.upto matchChainsSpec)

/-- 'cubeblaw02.MatchFrozen', WHERE WHAT IT READS IS OF BULK AT MOST 1048576: true; the input reads as it did. -/
def matchFrozenUptoRow : OpenClaim := { program := "ytjkphmbjdleppaa", sum := "1196f77d49112adb46b1e7739c388e8aa2627f5b4c4eaf3c6bd9bb258d4b1987", func := "cubeb/cubeblaw02.MatchFrozen", spec := "matchFrozen", unfollowed := true, recurses := true, plainKeys := false, apart := false, narrowed := true }
def MatchFrozenUptoSaid : Prop := matchFrozenUptoRow.holds Try.pinned (OpenSpec.upto matchFrozenSpec)

/-- 'cubeblaw02.MatchCored', WHERE WHAT IT READS IS OF BULK AT MOST 1048576: true; the input reads as it did. -/
def matchCoredUptoRow : OpenClaim := { program := "ytjkphmbjdleppaa", sum := "1196f77d49112adb46b1e7739c388e8aa2627f5b4c4eaf3c6bd9bb258d4b1987", func := "cubeb/cubeblaw02.MatchCored", spec := "matchCored", unfollowed := true, recurses := true, plainKeys := false, apart := false, narrowed := true }
def MatchCoredUptoSaid : Prop := matchCoredUptoRow.holds Try.pinned (OpenSpec.upto matchCoredSpec)

end Rows
end Go.Proofs.Ytjkphmbjdleppaa
