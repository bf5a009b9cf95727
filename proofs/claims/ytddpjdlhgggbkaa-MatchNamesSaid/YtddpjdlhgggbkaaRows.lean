/-
  No cell of these rows narrows 'for every input' (looked for: loops, veiled, ifaces, maps, wideKeys, modest, calm, conditions, laid).
  DERIVED. THE GIVEN ROWS OF THIS SEAT. 3 by the template 'for every input the law returns true; each argument reads behind the call as it read before'; 0 by the template 'total and deterministic' (their statements: YtddpjdlhgggbkaaTotals.lean).
  GIVEN WITH THE SEED: the statements are not yours to turn. If you find one false, say at which input.
  Laid BY PROGRAM, IN A SANDBOX (cutbox-rows.mjs): the forced cells as the released guide's own fill.sh prints them over the translation e56916d960c9bc8b… (all of the seat's roots in one cut). By AI agents, Wed Nov 11 2026. No macro, syntax, notation, axiom, sorry.
-/
import Derived.Test.YtddpjdlhgggbkaaChecked
import GoSem.Claim
import GoSem.ClaimJoined
import GoSem.ClaimMapViews
import Derived.JoinedTies
import Derived.KernelRfl
namespace Go.Proofs.Ytddpjdlhgggbkaa
/- THE CELL 'sum', in the pinned program and in every row, IS THE sha256 OF THE DUMP (.gsa) THAT YtddpjdlhgggbkaaProg.lean LOADS. Nothing in Lean hashes anything: it is a label: what it is worth is what the hold of that sum in a sandbox is worth. -/
noncomputable def Try.pinned : Pinned := { name := "ytddpjdlhgggbkaa", sum := "e56916d960c9bc8b4b70eb3f5f3b065deb5a17f348c950556cd3452b08a1bcc7", checked := Try.checked }
namespace Rows
def none {H : Type} : Left H := { results := [], args := [] }

/-- 'cubeblaw02.MatchNames': WHATEVER THE INPUT: true; the input reads as it did. -/
def matchNamesSpec : ChangeSpec := { name := "matchNames", fn := fun _ => fun
  | [d1, d2, d3] => { results := [.lit (.bool true)], args := [d1, d2, d3] }
  | _ => none }
def matchNamesRow : OpenClaim := { program := "ytddpjdlhgggbkaa", sum := "e56916d960c9bc8b4b70eb3f5f3b065deb5a17f348c950556cd3452b08a1bcc7", func := "cubeb/cubeblaw02.MatchNames", spec := "matchNames", unfollowed := true, recurses := true, plainKeys := false, apart := false }
def MatchNamesSaid : Prop := matchNamesRow.holds Try.pinned (OpenSpec.ofChange matchNamesSpec)

/-- ITS FALSE NEIGHBOUR: 'it returns false'. Refute it at one input. -/
def matchNamesWrong : ChangeSpec := { name := "matchNames", fn := fun _ => fun
  | [d1, d2, d3] => { results := [.lit (.bool false)], args := [d1, d2, d3] }
  | _ => none }
def MatchNamesWrongFalsely : Prop := matchNamesRow.holds Try.pinned (OpenSpec.ofChange matchNamesWrong)

/-- 'cubeblaw02.MatchTrees': WHATEVER THE INPUT: true; the input reads as it did. -/
def matchTreesSpec : ChangeSpec := { name := "matchTrees", fn := fun _ => fun
  | [d1, d2] => { results := [.lit (.bool true)], args := [d1, d2] }
  | _ => none }
def matchTreesRow : OpenClaim := { program := "ytddpjdlhgggbkaa", sum := "e56916d960c9bc8b4b70eb3f5f3b065deb5a17f348c950556cd3452b08a1bcc7", func := "cubeb/cubeblaw02.MatchTrees", spec := "matchTrees", unfollowed := true, recurses := true, plainKeys := false, apart := false }
def MatchTreesSaid : Prop := matchTreesRow.holds Try.pinned (OpenSpec.ofChange matchTreesSpec)

/-- ITS FALSE NEIGHBOUR: 'it returns false'. Refute it at one input. -/
def matchTreesWrong : ChangeSpec := { name := "matchTrees", fn := fun _ => fun
  | [d1, d2] => { results := [.lit (.bool false)], args := [d1, d2] }
  | _ => none }
def MatchTreesWrongFalsely : Prop := matchTreesRow.holds Try.pinned (OpenSpec.ofChange matchTreesWrong)

/-- 'cubeblaw02.MatchAcyclic': WHATEVER THE INPUT: true; the input reads as it did. -/
def matchAcyclicSpec : ChangeSpec := { name := "matchAcyclic", fn := fun _ => fun
  | [d1, d2] => { results := [.lit (.bool true)], args := [d1, d2] }
  | _ => none }
def matchAcyclicRow : OpenClaim := { program := "ytddpjdlhgggbkaa", sum := "e56916d960c9bc8b4b70eb3f5f3b065deb5a17f348c950556cd3452b08a1bcc7", func := "cubeb/cubeblaw02.MatchAcyclic", spec := "matchAcyclic", unfollowed := true, recurses := true, plainKeys := false, apart := false }
def MatchAcyclicSaid : Prop := matchAcyclicRow.holds Try.pinned (OpenSpec.ofChange matchAcyclicSpec)

/-- ITS FALSE NEIGHBOUR: 'it returns false'. Refute it at one input. -/
def matchAcyclicWrong : ChangeSpec := { name := "matchAcyclic", fn := fun _ => fun
  | [d1, d2] => { results := [.lit (.bool false)], args := [d1, d2] }
  | _ => none }
def MatchAcyclicWrongFalsely : Prop := matchAcyclicRow.holds Try.pinned (OpenSpec.ofChange matchAcyclicWrong)

/- THE SECOND FORM. 'bulk': how many values and letters a reading holds, each counted each time it is reached (what is shared counts as often as it is met; a slice's spare places count too). A statement '..UptoSaid' is the law's where the arguments, and the package variables that the reading takes, are together of bulk at most 1048576: NARROWER than '..Said'. Prove '..Said' where nothing that the law and all that it calls make is longer than what came in: it says more and counts as full. Else prove '..UptoSaid'. A law counts once. -/
mutual
def uptoBulk {H : Type} : DataW H → Nat
  | .lit (.string bytes) => bytes.length + 1
  | .lit _ => 1
  | .nil => 1
  | .ptr d => uptoBulk d + 1
  | .slice elems spare => uptoBulkAll elems + uptoBulkAll spare + 1
  | .agg parts => uptoBulkAll parts + 1
  | .iface _ d => uptoBulk d + 1
  | .map entries => uptoBulkEntries entries + 1
  | .held _ => 1
def uptoBulkAll {H : Type} : List (DataW H) → Nat
  | [] => 0
  | d :: r => uptoBulk d + uptoBulkAll r
def uptoBulkEntries {H : Type} : List (Lit × DataW H) → Nat
  | [] => 0
  | x :: r => uptoBulkEntry x + uptoBulkEntries r
def uptoBulkEntry {H : Type} : Lit × DataW H → Nat
  | (.string bytes, d) => bytes.length + uptoBulk d + 1
  | (_, d) => uptoBulk d + 1
 end
def uptoSmall : (H : Type) → List (DataW H) → Bool := fun _ ds => decide (uptoBulkAll ds ≤ 1048576)
def OpenSpec.upto (s : _root_.Go.ChangeSpec) : _root_.Go.OpenSpec := { _root_.Go.OpenSpec.ofChange s with cond := some uptoSmall }

/-- 'cubeblaw02.MatchNames', WHERE WHAT IT READS IS OF BULK AT MOST 1048576: true; the input reads as it did. -/
def matchNamesUptoRow : OpenClaim := { program := "ytddpjdlhgggbkaa", sum := "e56916d960c9bc8b4b70eb3f5f3b065deb5a17f348c950556cd3452b08a1bcc7", func := "cubeb/cubeblaw02.MatchNames", spec := "matchNames", unfollowed := true, recurses := true, plainKeys := false, apart := false, narrowed := true }
def MatchNamesUptoSaid : Prop := matchNamesUptoRow.holds Try.pinned (OpenSpec.upto matchNamesSpec)

/-- 'cubeblaw02.MatchTrees', WHERE WHAT IT READS IS OF BULK AT MOST 1048576: true; the input reads as it did. -/
def matchTreesUptoRow : OpenClaim := { program := "ytddpjdlhgggbkaa", sum := "e56916d960c9bc8b4b70eb3f5f3b065deb5a17f348c950556cd3452b08a1bcc7", func := "cubeb/cubeblaw02.MatchTrees", spec := "matchTrees", unfollowed := true, recurses := true, plainKeys := false, apart := false, narrowed := true }
def MatchTreesUptoSaid : Prop := matchTreesUptoRow.holds Try.pinned (OpenSpec.upto matchTreesSpec)

/-- 'cubeblaw02.MatchAcyclic', WHERE WHAT IT READS IS OF BULK AT MOST 1048576: true; the input reads as it did. -/
def matchAcyclicUptoRow : OpenClaim := { program := "ytddpjdlhgggbkaa", sum := "e56916d960c9bc8b4b70eb3f5f3b065deb5a17f348c950556cd3452b08a1bcc7", func := "cubeb/cubeblaw02.MatchAcyclic", spec := "matchAcyclic", unfollowed := true, recurses := true, plainKeys := false, apart := false, narrowed := true }
def MatchAcyclicUptoSaid : Prop := matchAcyclicUptoRow.holds Try.pinned (OpenSpec.upto matchAcyclicSpec)

end Rows
end Go.Proofs.Ytddpjdlhgggbkaa
