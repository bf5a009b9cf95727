/-
  No cell of these rows narrows 'for every input' (looked for: loops, veiled, ifaces, maps, wideKeys, modest, calm, conditions, laid).
  DERIVED. THE GIVEN ROWS OF THIS SEAT. 2 by the template 'for every input the law returns true; each argument reads behind the call as it read before'; 0 by the template 'total and deterministic' (their statements: YtmjpnfapjcfejaaTotals.lean).
  GIVEN WITH THE SEED: the statements are not yours to turn. If you find one false, say at which input.
  Laid BY PROGRAM, IN A SANDBOX (cutbox-rows.mjs): the forced cells as the released guide's own fill.sh prints them over the translation ca7d4e0db9e88d91… (all of the seat's roots in one cut). By AI agents, Wed Nov 11 2026. No macro, syntax, notation, axiom, sorry.
-/
import Derived.Test.YtmjpnfapjcfejaaChecked
import GoSem.Claim
import GoSem.ClaimJoined
import GoSem.ClaimMapViews
import Derived.JoinedTies
import Derived.KernelRfl
namespace Go.Proofs.Ytmjpnfapjcfejaa
/- THE CELL 'sum', in the pinned program and in every row, IS THE sha256 OF THE DUMP (.gsa) THAT YtmjpnfapjcfejaaProg.lean LOADS. Nothing in Lean hashes anything: it is a label: what it is worth is what the hold of that sum in a sandbox is worth. -/
noncomputable def Try.pinned : Pinned := { name := "ytmjpnfapjcfejaa", sum := "ca7d4e0db9e88d9126d7db98da1e3e86def81357cdf94920d4d2a9682ada5544", checked := Try.checked }
namespace Rows
def none {H : Type} : Left H := { results := [], args := [] }

/-- 'cubeblaw07.RepairAttacks': WHATEVER THE INPUT: true; the input reads as it did. -/
def repairAttacksSpec : ChangeSpec := { name := "repairAttacks", fn := fun _ => fun
  | [d1, d2] => { results := [.lit (.bool true)], args := [d1, d2] }
  | _ => none }
def repairAttacksRow : OpenClaim := { program := "ytmjpnfapjcfejaa", sum := "ca7d4e0db9e88d9126d7db98da1e3e86def81357cdf94920d4d2a9682ada5544", func := "cubeb/cubeblaw07.RepairAttacks", spec := "repairAttacks", unfollowed := true, recurses := true, apart := false }
def RepairAttacksSaid : Prop := repairAttacksRow.holds Try.pinned (OpenSpec.ofChange repairAttacksSpec)

/-- ITS FALSE NEIGHBOUR: 'it returns false'. Refute it at one input. -/
def repairAttacksWrong : ChangeSpec := { name := "repairAttacks", fn := fun _ => fun
  | [d1, d2] => { results := [.lit (.bool false)], args := [d1, d2] }
  | _ => none }
def RepairAttacksWrongFalsely : Prop := repairAttacksRow.holds Try.pinned (OpenSpec.ofChange repairAttacksWrong)

/-- 'cubeblaw07.RepairBlocks': WHATEVER THE INPUT: true; the input reads as it did. -/
def repairBlocksSpec : ChangeSpec := { name := "repairBlocks", fn := fun _ => fun
  | [d1, d2] => { results := [.lit (.bool true)], args := [d1, d2] }
  | _ => none }
def repairBlocksRow : OpenClaim := { program := "ytmjpnfapjcfejaa", sum := "ca7d4e0db9e88d9126d7db98da1e3e86def81357cdf94920d4d2a9682ada5544", func := "cubeb/cubeblaw07.RepairBlocks", spec := "repairBlocks", unfollowed := true, recurses := true, apart := false }
def RepairBlocksSaid : Prop := repairBlocksRow.holds Try.pinned (OpenSpec.ofChange repairBlocksSpec)

/-- ITS FALSE NEIGHBOUR: 'it returns false'. Refute it at one input. -/
def repairBlocksWrong : ChangeSpec := { name := "repairBlocks", fn := fun _ => fun
  | [d1, d2] => { results := [.lit (.bool false)], args := [d1, d2] }
  | _ => none }
def RepairBlocksWrongFalsely : Prop := repairBlocksRow.holds Try.pinned (OpenSpec.ofChange repairBlocksWrong)

/- THE SECOND FORM. 'bulk': how many values and letters a reading holds, each counted each time it is reached (what is shared counts as often as it is met; a slice's spare places count too). A statement '..UptoSaid' is the law's where the arguments, and the package variables that the reading takes, are together of bulk at most 1048576: NARROWER than '..Said'. Prove '..Said' where nothing that the law and all that it calls make is longer than what came in: it says more and counts as full. Else prove '..UptoSaid'. A law counts once. -/
mutual
def uptoBulk {H : Type} : DataW H → Nat
  | .lit (.string bytes) => bytes.length + 1
  | .lit _ => 1
  | .nil => 1
  | .ptr d => uptoBulk d + 1
  | .slice elems spare => uptoBulkAll elems + uptoBulkAll spare + 1
  | .agg parts => uptoBulkAll parts + 1
  | .iface _ d => uptoBulk d + 1
  | .map entries => uptoBulkEntries entries + 1
  | .held _ => 1
def uptoBulkAll {H : Type} : List (DataW H) → Nat
  | [] => 0
  | d :: r => uptoBulk d + uptoBulkAll r
def uptoBulkEntries {H : Type} : List (Lit × DataW H) → Nat
  | [] => 0
  | x :: r => uptoBulkEntry x + uptoBulkEntries r
def uptoBulkEntry {H : Type} : Lit × DataW H → Nat
  | (.string bytes, d) => bytes.length + uptoBulk d + 1
  | (_, d) => uptoBulk d + 1
 end
def uptoSmall : (H : Type) → List (DataW H) → Bool := fun _ ds => decide (uptoBulkAll ds ≤ 1048576)
def OpenSpec.upto (s : _root_.Go.ChangeSpec) : _root_.Go.OpenSpec := { _root_.Go.OpenSpec.ofChange s with cond := some uptoSmall }

/-- 'cubeblaw07.RepairAttacks', WHERE WHAT IT READS IS OF BULK AT MOST 1048576: true; the input reads as it did. -/
def repairAttacksUptoRow : OpenClaim := { program := "ytmjpnfapjcfejaa", sum := "ca7d4e0db9e88d9126d7db98da1e3e86def81357cdf94920d4d2a9682ada5544", func := "cubeb/cubeblaw07.RepairAttacks", spec := "repairAttacks", unfollowed := true, recurses := true, apart := false, narrowed := true }
def RepairAttacksUptoSaid : Prop := repairAttacksUptoRow.holds Try.pinned (OpenSpec.upto repairAttacksSpec)

/-- 'cubeblaw07.RepairBlocks', WHERE WHAT IT READS IS OF BULK AT MOST 1048576: true; the input reads as it did. -/
def repairBlocksUptoRow : OpenClaim := { program := "ytmjpnfapjcfejaa", sum := "ca7d4e0db9e88d9126d7db98da1e3e86def81357cdf94920d4d2a9682ada5544", func := "cubeb/cubeblaw07.RepairBlocks", spec := "repairBlocks", unfollowed := true, recurses := true, apart := false, narrowed := true }
def RepairBlocksUptoSaid : Prop := repairBlocksUptoRow.holds Try.pinned (OpenSpec.upto repairBlocksSpec)

end Rows
end Go.Proofs.Ytmjpnfapjcfejaa
