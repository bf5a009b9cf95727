/-
  NARROWER THAN 'FOR EVERY INPUT', by the rows' own cells (each row's printed sentence says how): ChordalOrders: laid · ChordalTurned: laid · ChordalHoles: laid · ChordalParts: laid · ChordalModels: laid · ChordalSpans: laid · ChordalColours: laid · ChordalOne: laid · ChordalTrees: laid · ChordalFew: laid · TopOverlap: laid · ChordalCovers: laid · ChordalPerfect: laid.
  DERIVED. THE GIVEN ROWS OF THIS SEAT. 13 by the template 'for every input the law returns true; each argument reads behind the call as it read before'; 0 by the template 'total and deterministic' (their statements: YtmpjanpmkmlloaaDoorTotals.lean).
  GIVEN WITH THE SEED: the statements are not yours to turn. If you find one false, say at which input.
  Laid BY PROGRAM, IN A SANDBOX (cutbox-rows.mjs): the forced cells as the released guide's own fill.sh prints them over the translation b61603599c6429a3… (all of the seat's roots in one cut). By AI agents, Wed Nov 11 2026. No macro, syntax, notation, axiom, sorry.
-/
import Derived.Test.YtmpjanpmkmlloaaDoorChecked
import GoSem.Claim
import GoSem.ClaimJoined
import GoSem.ClaimMapViews
import Derived.JoinedTies
import Derived.KernelRfl
namespace Go.Proofs.YtmpjanpmkmlloaaDoor
/- THE CELL 'sum', in the pinned program and in every row, IS THE sha256 OF THE DUMP (.gsa) THAT YtmpjanpmkmlloaaDoorProg.lean LOADS. Nothing in Lean hashes anything: it is a label: what it is worth is what the hold of that sum in a sandbox is worth. -/
noncomputable def Tryd.pinned : Pinned := { name := "ytmpjanpmkmlloaadoor", sum := "b61603599c6429a3cf7a71b38f6bb451e10b5b19583a317ebd6acd55e3458289", checked := Tryd.checked }
namespace Rows
def none {H : Type} : Left H := { results := [], args := [] }

/- WHAT THE LISTED PACKAGE-LEVEL VARIABLES READ AS WHEN THE CALL BEGINS. Each datum BY PROGRAM (the guide's laid-datum.mjs) off the statement by which the dump's own 'gosem.cut.vars' lays the variable. In a bare row this is a premise. The card (YtmpjanpmkmlloaaDoorCards.lean) ties it to the program's text. -/
def laid_math_bits_deBruijn32tab {H : Type} : DataW H := .agg [.lit (.int .u8 0), .lit (.int .u8 1), .lit (.int .u8 28), .lit (.int .u8 2), .lit (.int .u8 29), .lit (.int .u8 14), .lit (.int .u8 24), .lit (.int .u8 3), .lit (.int .u8 30), .lit (.int .u8 22), .lit (.int .u8 20), .lit (.int .u8 15), .lit (.int .u8 25), .lit (.int .u8 17), .lit (.int .u8 4), .lit (.int .u8 8), .lit (.int .u8 31), .lit (.int .u8 27), .lit (.int .u8 13), .lit (.int .u8 23), .lit (.int .u8 21), .lit (.int .u8 19), .lit (.int .u8 16), .lit (.int .u8 7), .lit (.int .u8 26), .lit (.int .u8 12), .lit (.int .u8 18), .lit (.int .u8 6), .lit (.int .u8 11), .lit (.int .u8 5), .lit (.int .u8 10), .lit (.int .u8 9)]
def laid_math_bits_deBruijn64tab {H : Type} : DataW H := .agg [.lit (.int .u8 0), .lit (.int .u8 1), .lit (.int .u8 56), .lit (.int .u8 2), .lit (.int .u8 57), .lit (.int .u8 49), .lit (.int .u8 28), .lit (.int .u8 3), .lit (.int .u8 61), .lit (.int .u8 58), .lit (.int .u8 42), .lit (.int .u8 50), .lit (.int .u8 38), .lit (.int .u8 29), .lit (.int .u8 17), .lit (.int .u8 4), .lit (.int .u8 62), .lit (.int .u8 47), .lit (.int .u8 59), .lit (.int .u8 36), .lit (.int .u8 45), .lit (.int .u8 43), .lit (.int .u8 51), .lit (.int .u8 22), .lit (.int .u8 53), .lit (.int .u8 39), .lit (.int .u8 33), .lit (.int .u8 30), .lit (.int .u8 24), .lit (.int .u8 18), .lit (.int .u8 12), .lit (.int .u8 5), .lit (.int .u8 63), .lit (.int .u8 55), .lit (.int .u8 48), .lit (.int .u8 27), .lit (.int .u8 60), .lit (.int .u8 41), .lit (.int .u8 37), .lit (.int .u8 16), .lit (.int .u8 46), .lit (.int .u8 35), .lit (.int .u8 44), .lit (.int .u8 21), .lit (.int .u8 52), .lit (.int .u8 32), .lit (.int .u8 23), .lit (.int .u8 11), .lit (.int .u8 54), .lit (.int .u8 26), .lit (.int .u8 40), .lit (.int .u8 15), .lit (.int .u8 34), .lit (.int .u8 20), .lit (.int .u8 31), .lit (.int .u8 10), .lit (.int .u8 25), .lit (.int .u8 14), .lit (.int .u8 19), .lit (.int .u8 9), .lit (.int .u8 13), .lit (.int .u8 8), .lit (.int .u8 7), .lit (.int .u8 6)]

/-- 'cubeblaw06.ChordalOrders': WHATEVER THE INPUT: true; the input reads as it did. -/
def chordalOrdersSpec : ChangeSpec := { name := "chordalOrders", fn := fun _ => fun
  | [d1, d2] => { results := [.lit (.bool true)], args := [d1, d2] }
  | _ => none }
def chordalOrdersRow : OpenClaim := { program := "ytmpjanpmkmlloaadoor", sum := "b61603599c6429a3cf7a71b38f6bb451e10b5b19583a317ebd6acd55e3458289", func := "cubeb/cubeblaw06.ChordalOrders", spec := "chordalOrders", unfollowed := true, recurses := true, named := ["math/bits.deBruijn32tab", "math/bits.deBruijn64tab"], apart := false, laid := [("math/bits.deBruijn32tab", laid_math_bits_deBruijn32tab), ("math/bits.deBruijn64tab", laid_math_bits_deBruijn64tab)] }
def ChordalOrdersSaid : Prop := chordalOrdersRow.holds Tryd.pinned (OpenSpec.ofChange chordalOrdersSpec)

/-- ITS FALSE NEIGHBOUR: 'it returns false'. Refute it at one input. -/
def chordalOrdersWrong : ChangeSpec := { name := "chordalOrders", fn := fun _ => fun
  | [d1, d2] => { results := [.lit (.bool false)], args := [d1, d2] }
  | _ => none }
def ChordalOrdersWrongFalsely : Prop := chordalOrdersRow.holds Tryd.pinned (OpenSpec.ofChange chordalOrdersWrong)

/-- 'cubeblaw06.ChordalTurned': WHATEVER THE INPUT: true; the input reads as it did. -/
def chordalTurnedSpec : ChangeSpec := { name := "chordalTurned", fn := fun _ => fun
  | [d] => { results := [.lit (.bool true)], args := [d] }
  | _ => none }
def chordalTurnedRow : OpenClaim := { program := "ytmpjanpmkmlloaadoor", sum := "b61603599c6429a3cf7a71b38f6bb451e10b5b19583a317ebd6acd55e3458289", func := "cubeb/cubeblaw06.ChordalTurned", spec := "chordalTurned", unfollowed := true, recurses := true, named := ["math/bits.deBruijn32tab", "math/bits.deBruijn64tab"], apart := false, laid := [("math/bits.deBruijn32tab", laid_math_bits_deBruijn32tab), ("math/bits.deBruijn64tab", laid_math_bits_deBruijn64tab)] }
def ChordalTurnedSaid : Prop := chordalTurnedRow.holds Tryd.pinned (OpenSpec.ofChange chordalTurnedSpec)

/-- ITS FALSE NEIGHBOUR: 'it returns false'. Refute it at one input. -/
def chordalTurnedWrong : ChangeSpec := { name := "chordalTurned", fn := fun _ => fun
  | [d] => { results := [.lit (.bool false)], args := [d] }
  | _ => none }
def ChordalTurnedWrongFalsely : Prop := chordalTurnedRow.holds Tryd.pinned (OpenSpec.ofChange chordalTurnedWrong)

/-- 'cubeblaw06.ChordalHoles': WHATEVER THE INPUT: true; the input reads as it did. -/
def chordalHolesSpec : ChangeSpec := { name := "chordalHoles", fn := fun _ => fun
  | [d1, d2] => { results := [.lit (.bool true)], args := [d1, d2] }
  | _ => none }
def chordalHolesRow : OpenClaim := { program := "ytmpjanpmkmlloaadoor", sum := "b61603599c6429a3cf7a71b38f6bb451e10b5b19583a317ebd6acd55e3458289", func := "cubeb/cubeblaw06.ChordalHoles", spec := "chordalHoles", unfollowed := true, recurses := true, named := ["math/bits.deBruijn32tab", "math/bits.deBruijn64tab"], apart := false, laid := [("math/bits.deBruijn32tab", laid_math_bits_deBruijn32tab), ("math/bits.deBruijn64tab", laid_math_bits_deBruijn64tab)] }
def ChordalHolesSaid : Prop := chordalHolesRow.holds Tryd.pinned (OpenSpec.ofChange chordalHolesSpec)

/-- ITS FALSE NEIGHBOUR: 'it returns false'. Refute it at one input. -/
def chordalHolesWrong : ChangeSpec := { name := "chordalHoles", fn := fun _ => fun
  | [d1, d2] => { results := [.lit (.bool false)], args := [d1, d2] }
  | _ => none }
def ChordalHolesWrongFalsely : Prop := chordalHolesRow.holds Tryd.pinned (OpenSpec.ofChange chordalHolesWrong)

/-- 'cubeblaw06.ChordalParts': WHATEVER THE INPUT: true; the input reads as it did. -/
def chordalPartsSpec : ChangeSpec := { name := "chordalParts", fn := fun _ => fun
  | [d1, d2] => { results := [.lit (.bool true)], args := [d1, d2] }
  | _ => none }
def chordalPartsRow : OpenClaim := { program := "ytmpjanpmkmlloaadoor", sum := "b61603599c6429a3cf7a71b38f6bb451e10b5b19583a317ebd6acd55e3458289", func := "cubeb/cubeblaw06.ChordalParts", spec := "chordalParts", unfollowed := true, recurses := true, named := ["math/bits.deBruijn32tab", "math/bits.deBruijn64tab"], apart := false, laid := [("math/bits.deBruijn32tab", laid_math_bits_deBruijn32tab), ("math/bits.deBruijn64tab", laid_math_bits_deBruijn64tab)] }
def ChordalPartsSaid : Prop := chordalPartsRow.holds Tryd.pinned (OpenSpec.ofChange chordalPartsSpec)

/-- ITS FALSE NEIGHBOUR: 'it returns false'. Refute it at one input. -/
def chordalPartsWrong : ChangeSpec := { name := "chordalParts", fn := fun _ => fun
  | [d1, d2] => { results := [.lit (.bool false)], args := [d1, d2] }
  | _ => none }
def ChordalPartsWrongFalsely : Prop := chordalPartsRow.holds Tryd.pinned (OpenSpec.ofChange chordalPartsWrong)

/-- 'cubeblaw06.ChordalModels': WHATEVER THE INPUT: true; the input reads as it did. -/
def chordalModelsSpec : ChangeSpec := { name := "chordalModels", fn := fun _ => fun
  | [d1, d2] => { results := [.lit (.bool true)], args := [d1, d2] }
  | _ => none }
def chordalModelsRow : OpenClaim := { program := "ytmpjanpmkmlloaadoor", sum := "b61603599c6429a3cf7a71b38f6bb451e10b5b19583a317ebd6acd55e3458289", func := "cubeb/cubeblaw06.ChordalModels", spec := "chordalModels", unfollowed := true, recurses := true, named := ["math/bits.deBruijn32tab", "math/bits.deBruijn64tab"], apart := false, laid := [("math/bits.deBruijn32tab", laid_math_bits_deBruijn32tab), ("math/bits.deBruijn64tab", laid_math_bits_deBruijn64tab)] }
def ChordalModelsSaid : Prop := chordalModelsRow.holds Tryd.pinned (OpenSpec.ofChange chordalModelsSpec)

/-- ITS FALSE NEIGHBOUR: 'it returns false'. Refute it at one input. -/
def chordalModelsWrong : ChangeSpec := { name := "chordalModels", fn := fun _ => fun
  | [d1, d2] => { results := [.lit (.bool false)], args := [d1, d2] }
  | _ => none }
def ChordalModelsWrongFalsely : Prop := chordalModelsRow.holds Tryd.pinned (OpenSpec.ofChange chordalModelsWrong)

/-- 'cubeblaw06.ChordalSpans': WHATEVER THE INPUT: true; the input reads as it did. -/
def chordalSpansSpec : ChangeSpec := { name := "chordalSpans", fn := fun _ => fun
  | [d1, d2] => { results := [.lit (.bool true)], args := [d1, d2] }
  | _ => none }
def chordalSpansRow : OpenClaim := { program := "ytmpjanpmkmlloaadoor", sum := "b61603599c6429a3cf7a71b38f6bb451e10b5b19583a317ebd6acd55e3458289", func := "cubeb/cubeblaw06.ChordalSpans", spec := "chordalSpans", unfollowed := true, recurses := true, named := ["math/bits.deBruijn32tab", "math/bits.deBruijn64tab"], apart := false, laid := [("math/bits.deBruijn32tab", laid_math_bits_deBruijn32tab), ("math/bits.deBruijn64tab", laid_math_bits_deBruijn64tab)] }
def ChordalSpansSaid : Prop := chordalSpansRow.holds Tryd.pinned (OpenSpec.ofChange chordalSpansSpec)

/-- ITS FALSE NEIGHBOUR: 'it returns false'. Refute it at one input. -/
def chordalSpansWrong : ChangeSpec := { name := "chordalSpans", fn := fun _ => fun
  | [d1, d2] => { results := [.lit (.bool false)], args := [d1, d2] }
  | _ => none }
def ChordalSpansWrongFalsely : Prop := chordalSpansRow.holds Tryd.pinned (OpenSpec.ofChange chordalSpansWrong)

/-- 'cubeblaw06.ChordalColours': WHATEVER THE INPUT: true; the input reads as it did. -/
def chordalColoursSpec : ChangeSpec := { name := "chordalColours", fn := fun _ => fun
  | [d1, d2] => { results := [.lit (.bool true)], args := [d1, d2] }
  | _ => none }
def chordalColoursRow : OpenClaim := { program := "ytmpjanpmkmlloaadoor", sum := "b61603599c6429a3cf7a71b38f6bb451e10b5b19583a317ebd6acd55e3458289", func := "cubeb/cubeblaw06.ChordalColours", spec := "chordalColours", unfollowed := true, recurses := true, named := ["math/bits.deBruijn32tab", "math/bits.deBruijn64tab"], apart := false, laid := [("math/bits.deBruijn32tab", laid_math_bits_deBruijn32tab), ("math/bits.deBruijn64tab", laid_math_bits_deBruijn64tab)] }
def ChordalColoursSaid : Prop := chordalColoursRow.holds Tryd.pinned (OpenSpec.ofChange chordalColoursSpec)

/-- ITS FALSE NEIGHBOUR: 'it returns false'. Refute it at one input. -/
def chordalColoursWrong : ChangeSpec := { name := "chordalColours", fn := fun _ => fun
  | [d1, d2] => { results := [.lit (.bool false)], args := [d1, d2] }
  | _ => none }
def ChordalColoursWrongFalsely : Prop := chordalColoursRow.holds Tryd.pinned (OpenSpec.ofChange chordalColoursWrong)

/-- 'cubeblaw06.ChordalOne': WHATEVER THE INPUT: true; the input reads as it did. -/
def chordalOneSpec : ChangeSpec := { name := "chordalOne", fn := fun _ => fun
  | [d1, d2] => { results := [.lit (.bool true)], args := [d1, d2] }
  | _ => none }
def chordalOneRow : OpenClaim := { program := "ytmpjanpmkmlloaadoor", sum := "b61603599c6429a3cf7a71b38f6bb451e10b5b19583a317ebd6acd55e3458289", func := "cubeb/cubeblaw06.ChordalOne", spec := "chordalOne", unfollowed := true, recurses := true, named := ["math/bits.deBruijn32tab", "math/bits.deBruijn64tab"], apart := false, laid := [("math/bits.deBruijn32tab", laid_math_bits_deBruijn32tab), ("math/bits.deBruijn64tab", laid_math_bits_deBruijn64tab)] }
def ChordalOneSaid : Prop := chordalOneRow.holds Tryd.pinned (OpenSpec.ofChange chordalOneSpec)

/-- ITS FALSE NEIGHBOUR: 'it returns false'. Refute it at one input. -/
def chordalOneWrong : ChangeSpec := { name := "chordalOne", fn := fun _ => fun
  | [d1, d2] => { results := [.lit (.bool false)], args := [d1, d2] }
  | _ => none }
def ChordalOneWrongFalsely : Prop := chordalOneRow.holds Tryd.pinned (OpenSpec.ofChange chordalOneWrong)

/-- 'cubeblaw06.ChordalTrees': WHATEVER THE INPUT: true; the input reads as it did. -/
def chordalTreesSpec : ChangeSpec := { name := "chordalTrees", fn := fun _ => fun
  | [d1, d2] => { results := [.lit (.bool true)], args := [d1, d2] }
  | _ => none }
def chordalTreesRow : OpenClaim := { program := "ytmpjanpmkmlloaadoor", sum := "b61603599c6429a3cf7a71b38f6bb451e10b5b19583a317ebd6acd55e3458289", func := "cubeb/cubeblaw06.ChordalTrees", spec := "chordalTrees", unfollowed := true, recurses := true, named := ["math/bits.deBruijn32tab", "math/bits.deBruijn64tab"], apart := false, laid := [("math/bits.deBruijn32tab", laid_math_bits_deBruijn32tab), ("math/bits.deBruijn64tab", laid_math_bits_deBruijn64tab)] }
def ChordalTreesSaid : Prop := chordalTreesRow.holds Tryd.pinned (OpenSpec.ofChange chordalTreesSpec)

/-- ITS FALSE NEIGHBOUR: 'it returns false'. Refute it at one input. -/
def chordalTreesWrong : ChangeSpec := { name := "chordalTrees", fn := fun _ => fun
  | [d1, d2] => { results := [.lit (.bool false)], args := [d1, d2] }
  | _ => none }
def ChordalTreesWrongFalsely : Prop := chordalTreesRow.holds Tryd.pinned (OpenSpec.ofChange chordalTreesWrong)

/-- 'cubeblaw06.ChordalFew': WHATEVER THE INPUT: true; the input reads as it did. -/
def chordalFewSpec : ChangeSpec := { name := "chordalFew", fn := fun _ => fun
  | [d1, d2] => { results := [.lit (.bool true)], args := [d1, d2] }
  | _ => none }
def chordalFewRow : OpenClaim := { program := "ytmpjanpmkmlloaadoor", sum := "b61603599c6429a3cf7a71b38f6bb451e10b5b19583a317ebd6acd55e3458289", func := "cubeb/cubeblaw06.ChordalFew", spec := "chordalFew", unfollowed := true, recurses := true, named := ["math/bits.deBruijn32tab", "math/bits.deBruijn64tab"], apart := false, laid := [("math/bits.deBruijn32tab", laid_math_bits_deBruijn32tab), ("math/bits.deBruijn64tab", laid_math_bits_deBruijn64tab)] }
def ChordalFewSaid : Prop := chordalFewRow.holds Tryd.pinned (OpenSpec.ofChange chordalFewSpec)

/-- ITS FALSE NEIGHBOUR: 'it returns false'. Refute it at one input. -/
def chordalFewWrong : ChangeSpec := { name := "chordalFew", fn := fun _ => fun
  | [d1, d2] => { results := [.lit (.bool false)], args := [d1, d2] }
  | _ => none }
def ChordalFewWrongFalsely : Prop := chordalFewRow.holds Tryd.pinned (OpenSpec.ofChange chordalFewWrong)

/-- 'cubebtop.TopOverlap': WHATEVER THE INPUT: true; the input reads as it did. -/
def topOverlapSpec : ChangeSpec := { name := "topOverlap", fn := fun _ => fun
  | [d] => { results := [.lit (.bool true)], args := [d] }
  | _ => none }
def topOverlapRow : OpenClaim := { program := "ytmpjanpmkmlloaadoor", sum := "b61603599c6429a3cf7a71b38f6bb451e10b5b19583a317ebd6acd55e3458289", func := "cubeb/cubebtop.TopOverlap", spec := "topOverlap", unfollowed := true, recurses := true, named := ["math/bits.deBruijn32tab", "math/bits.deBruijn64tab"], apart := false, laid := [("math/bits.deBruijn32tab", laid_math_bits_deBruijn32tab), ("math/bits.deBruijn64tab", laid_math_bits_deBruijn64tab)] }
def TopOverlapSaid : Prop := topOverlapRow.holds Tryd.pinned (OpenSpec.ofChange topOverlapSpec)

/-- ITS FALSE NEIGHBOUR: 'it returns false'. Refute it at one input. -/
def topOverlapWrong : ChangeSpec := { name := "topOverlap", fn := fun _ => fun
  | [d] => { results := [.lit (.bool false)], args := [d] }
  | _ => none }
def TopOverlapWrongFalsely : Prop := topOverlapRow.holds Tryd.pinned (OpenSpec.ofChange topOverlapWrong)

/-- 'cubeblaw06.ChordalCovers': WHATEVER THE INPUT: true; the input reads as it did. -/
def chordalCoversSpec : ChangeSpec := { name := "chordalCovers", fn := fun _ => fun
  | [d] => { results := [.lit (.bool true)], args := [d] }
  | _ => none }
def chordalCoversRow : OpenClaim := { program := "ytmpjanpmkmlloaadoor", sum := "b61603599c6429a3cf7a71b38f6bb451e10b5b19583a317ebd6acd55e3458289", func := "cubeb/cubeblaw06.ChordalCovers", spec := "chordalCovers", unfollowed := true, recurses := true, named := ["math/bits.deBruijn32tab", "math/bits.deBruijn64tab"], apart := false, laid := [("math/bits.deBruijn32tab", laid_math_bits_deBruijn32tab), ("math/bits.deBruijn64tab", laid_math_bits_deBruijn64tab)] }
def ChordalCoversSaid : Prop := chordalCoversRow.holds Tryd.pinned (OpenSpec.ofChange chordalCoversSpec)

/-- ITS FALSE NEIGHBOUR: 'it returns false'. Refute it at one input. -/
def chordalCoversWrong : ChangeSpec := { name := "chordalCovers", fn := fun _ => fun
  | [d] => { results := [.lit (.bool false)], args := [d] }
  | _ => none }
def ChordalCoversWrongFalsely : Prop := chordalCoversRow.holds Tryd.pinned (OpenSpec.ofChange chordalCoversWrong)

/-- 'cubeblaw06.ChordalPerfect': WHATEVER THE INPUT: true; the input reads as it did. -/
def chordalPerfectSpec : ChangeSpec := { name := "chordalPerfect", fn := fun _ => fun
  | [d1, d2] => { results := [.lit (.bool true)], args := [d1, d2] }
  | _ => none }
def chordalPerfectRow : OpenClaim := { program := "ytmpjanpmkmlloaadoor", sum := "b61603599c6429a3cf7a71b38f6bb451e10b5b19583a317ebd6acd55e3458289", func := "cubeb/cubeblaw06.ChordalPerfect", spec := "chordalPerfect", unfollowed := true, recurses := true, named := ["math/bits.deBruijn32tab", "math/bits.deBruijn64tab"], apart := false, laid := [("math/bits.deBruijn32tab", laid_math_bits_deBruijn32tab), ("math/bits.deBruijn64tab", laid_math_bits_deBruijn64tab)] }
def ChordalPerfectSaid : Prop := chordalPerfectRow.holds Tryd.pinned (OpenSpec.ofChange chordalPerfectSpec)

/-- ITS FALSE NEIGHBOUR: 'it returns false'. Refute it at one input. -/
def chordalPerfectWrong : ChangeSpec := { name := "chordalPerfect", fn := fun _ => fun
  | [d1, d2] => { results := [.lit (.bool false)], args := [d1, d2] }
  | _ => none }
def ChordalPerfectWrongFalsely : Prop := chordalPerfectRow.holds Tryd.pinned (OpenSpec.ofChange chordalPerfectWrong)

/- THE SECOND FORM. 'bulk': how many values and letters a reading holds, each counted each time it is reached (what is shared counts as often as it is met; a slice's spare places count too). A statement '..UptoSaid' is the law's where the arguments, and the package variables that the reading takes, are together of bulk at most 1048576: NARROWER than '..Said'. Prove '..Said' where nothing that the law and all that it calls make is longer than what came in: it says more and counts as full. Else prove '..UptoSaid'. A law counts once. -/
mutual
def uptoBulk {H : Type} : DataW H → Nat
  | .lit (.string bytes) => bytes.length + 1
  | .lit _ => 1
  | .nil => 1
  | .ptr d => uptoBulk d + 1
  | .slice elems spare => uptoBulkAll elems + uptoBulkAll spare + 1
  | .agg parts => uptoBulkAll parts + 1
  | .iface _ d => uptoBulk d + 1
  | .map entries => uptoBulkEntries entries + 1
  | .held _ => 1
def uptoBulkAll {H : Type} : List (DataW H) → Nat
  | [] => 0
  | d :: r => uptoBulk d + uptoBulkAll r
def uptoBulkEntries {H : Type} : List (Lit × DataW H) → Nat
  | [] => 0
  | x :: r => uptoBulkEntry x + uptoBulkEntries r
def uptoBulkEntry {H : Type} : Lit × DataW H → Nat
  | (.string bytes, d) => bytes.length + uptoBulk d + 1
  | (_, d) => uptoBulk d + 1
 end
def uptoSmall : (H : Type) → List (DataW H) → Bool := fun _ ds => decide (uptoBulkAll ds ≤ 1048576)
def OpenSpec.upto (s : _root_.Go.ChangeSpec) : _root_.Go.OpenSpec := { _root_.Go.OpenSpec.ofChange s with cond := some uptoSmall }

/-- 'cubeblaw06.ChordalOrders', WHERE WHAT IT READS IS OF BULK AT MOST 1048576: true; the input reads as it did. -/
def chordalOrdersUptoRow : OpenClaim := { program := "ytmpjanpmkmlloaadoor", sum := "b61603599c6429a3cf7a71b38f6bb451e10b5b19583a317ebd6acd55e3458289", func := "cubeb/cubeblaw06.ChordalOrders", spec := "chordalOrders", unfollowed := true, recurses := true, named := ["math/bits.deBruijn32tab", "math/bits.deBruijn64tab"], apart := false, laid := [("math/bits.deBruijn32tab", laid_math_bits_deBruijn32tab), ("math/bits.deBruijn64tab", laid_math_bits_deBruijn64tab)], narrowed := true }
def ChordalOrdersUptoSaid : Prop := chordalOrdersUptoRow.holds Tryd.pinned (OpenSpec.upto chordalOrdersSpec)

/-- 'cubeblaw06.ChordalTurned', WHERE WHAT IT READS IS OF BULK AT MOST 1048576: true; the input reads as it did. -/
def chordalTurnedUptoRow : OpenClaim := { program := "ytmpjanpmkmlloaadoor", sum := "b61603599c6429a3cf7a71b38f6bb451e10b5b19583a317ebd6acd55e3458289", func := "cubeb/cubeblaw06.ChordalTurned", spec := "chordalTurned", unfollowed := true, recurses := true, named := ["math/bits.deBruijn32tab", "math/bits.deBruijn64tab"], apart := false, laid := [("math/bits.deBruijn32tab", laid_math_bits_deBruijn32tab), ("math/bits.deBruijn64tab", laid_math_bits_deBruijn64tab)], narrowed := true }
def ChordalTurnedUptoSaid : Prop := chordalTurnedUptoRow.holds Tryd.pinned (OpenSpec.upto chordalTurnedSpec)

/-- 'cubeblaw06.ChordalHoles', WHERE WHAT IT READS IS OF BULK AT MOST 1048576: true; the input reads as it did. -/
def chordalHolesUptoRow : OpenClaim := { program := "ytmpjanpmkmlloaadoor", sum := "b61603599c6429a3cf7a71b38f6bb451e10b5b19583a317ebd6acd55e3458289", func := "cubeb/cubeblaw06.ChordalHoles", spec := "chordalHoles", unfollowed := true, recurses := true, named := ["math/bits.deBruijn32tab", "math/bits.deBruijn64tab"], apart := false, laid := [("math/bits.deBruijn32tab", laid_math_bits_deBruijn32tab), ("math/bits.deBruijn64tab", laid_math_bits_deBruijn64tab)], narrowed := true }
def ChordalHolesUptoSaid : Prop := chordalHolesUptoRow.holds Tryd.pinned (OpenSpec.upto chordalHolesSpec)

/-- 'cubeblaw06.ChordalParts', WHERE WHAT IT READS IS OF BULK AT MOST 1048576: true; the input reads as it did. -/
def chordalPartsUptoRow : OpenClaim := { program := "ytmpjanpmkmlloaadoor", sum := "b61603599c6429a3cf7a71b38f6bb451e10b5b19583a317ebd6acd55e3458289", func := "cubeb/cubeblaw06.ChordalParts", spec := "chordalParts", unfollowed := true, recurses := true, named := ["math/bits.deBruijn32tab", "math/bits.deBruijn64tab"], apart := false, laid := [("math/bits.deBruijn32tab", laid_math_bits_deBruijn32tab), ("math/bits.deBruijn64tab", laid_math_bits_deBruijn64tab)], narrowed := true }
def ChordalPartsUptoSaid : Prop := chordalPartsUptoRow.holds Tryd.pinned (OpenSpec.upto chordalPartsSpec)

/-- 'cubeblaw06.ChordalModels', WHERE WHAT IT READS IS OF BULK AT MOST 1048576: true; the input reads as it did. -/
def chordalModelsUptoRow : OpenClaim := { program := "ytmpjanpmkmlloaadoor", sum := "b61603599c6429a3cf7a71b38f6bb451e10b5b19583a317ebd6acd55e3458289", func := "cubeb/cubeblaw06.ChordalModels", spec := "chordalModels", unfollowed := true, recurses := true, named := ["math/bits.deBruijn32tab", "math/bits.deBruijn64tab"], apart := false, laid := [("math/bits.deBruijn32tab", laid_math_bits_deBruijn32tab), ("math/bits.deBruijn64tab", laid_math_bits_deBruijn64tab)], narrowed := true }
def ChordalModelsUptoSaid : Prop := chordalModelsUptoRow.holds Tryd.pinned (OpenSpec.upto chordalModelsSpec)

/-- 'cubeblaw06.ChordalSpans', WHERE WHAT IT READS IS OF BULK AT MOST 1048576: true; the input reads as it did. -/
def chordalSpansUptoRow : OpenClaim := { program := "ytmpjanpmkmlloaadoor", sum := "b61603599c6429a3cf7a71b38f6bb451e10b5b19583a317ebd6acd55e3458289", func := "cubeb/cubeblaw06.ChordalSpans", spec := "chordalSpans", unfollowed := true, recurses := true, named := ["math/bits.deBruijn32tab", "math/bits.deBruijn64tab"], apart := false, laid := [("math/bits.deBruijn32tab", laid_math_bits_deBruijn32tab), ("math/bits.deBruijn64tab", laid_math_bits_deBruijn64tab)], narrowed := true }
def ChordalSpansUptoSaid : Prop := chordalSpansUptoRow.holds Tryd.pinned (OpenSpec.upto chordalSpansSpec)

/-- 'cubeblaw06.ChordalColours', WHERE WHAT IT READS IS OF BULK AT MOST 1048576: true; the input reads as it did. -/
def chordalColoursUptoRow : OpenClaim := { program := "ytmpjanpmkmlloaadoor", sum := "b61603599c6429a3cf7a71b38f6bb451e10b5b19583a317ebd6acd55e3458289", func := "cubeb/cubeblaw06.ChordalColours", spec := "chordalColours", unfollowed := true, recurses := true, named := ["math/bits.deBruijn32tab", "math/bits.deBruijn64tab"], apart := false, laid := [("math/bits.deBruijn32tab", laid_math_bits_deBruijn32tab), ("math/bits.deBruijn64tab", laid_math_bits_deBruijn64tab)], narrowed := true }
def ChordalColoursUptoSaid : Prop := chordalColoursUptoRow.holds Tryd.pinned (OpenSpec.upto chordalColoursSpec)

/-- 'cubeblaw06.ChordalOne', WHERE WHAT IT READS IS OF BULK AT MOST 1048576: true; the input reads as it did. -/
def chordalOneUptoRow : OpenClaim := { program := "ytmpjanpmkmlloaadoor", sum := "b61603599c6429a3cf7a71b38f6bb451e10b5b19583a317ebd6acd55e3458289", func := "cubeb/cubeblaw06.ChordalOne", spec := "chordalOne", unfollowed := true, recurses := true, named := ["math/bits.deBruijn32tab", "math/bits.deBruijn64tab"], apart := false, laid := [("math/bits.deBruijn32tab", laid_math_bits_deBruijn32tab), ("math/bits.deBruijn64tab", laid_math_bits_deBruijn64tab)], narrowed := true }
def ChordalOneUptoSaid : Prop := chordalOneUptoRow.holds Tryd.pinned (OpenSpec.upto chordalOneSpec)

/-- 'cubeblaw06.ChordalTrees', WHERE WHAT IT READS IS OF BULK AT MOST 1048576: true; the input reads as it did. -/
def chordalTreesUptoRow : OpenClaim := { program := "ytmpjanpmkmlloaadoor", sum := "b61603599c6429a3cf7a71b38f6bb451e10b5b19583a317ebd6acd55e3458289", func := "cubeb/cubeblaw06.ChordalTrees", spec := "chordalTrees", unfollowed := true, recurses := true, named := ["math/bits.deBruijn32tab", "math/bits.deBruijn64tab"], apart := false, laid := [("math/bits.deBruijn32tab", laid_math_bits_deBruijn32tab), ("math/bits.deBruijn64tab", laid_math_bits_deBruijn64tab)], narrowed := true }
def ChordalTreesUptoSaid : Prop := chordalTreesUptoRow.holds Tryd.pinned (OpenSpec.upto chordalTreesSpec)

/-- 'cubeblaw06.ChordalFew', WHERE WHAT IT READS IS OF BULK AT MOST 1048576: true; the input reads as it did. -/
def chordalFewUptoRow : OpenClaim := { program := "ytmpjanpmkmlloaadoor", sum := "b61603599c6429a3cf7a71b38f6bb451e10b5b19583a317ebd6acd55e3458289", func := "cubeb/cubeblaw06.ChordalFew", spec := "chordalFew", unfollowed := true, recurses := true, named := ["math/bits.deBruijn32tab", "math/bits.deBruijn64tab"], apart := false, laid := [("math/bits.deBruijn32tab", laid_math_bits_deBruijn32tab), ("math/bits.deBruijn64tab", laid_math_bits_deBruijn64tab)], narrowed := true }
def ChordalFewUptoSaid : Prop := chordalFewUptoRow.holds Tryd.pinned (OpenSpec.upto chordalFewSpec)

/-- 'cubebtop.TopOverlap', WHERE WHAT IT READS IS OF BULK AT MOST 1048576: true; the input reads as it did. -/
def topOverlapUptoRow : OpenClaim := { program := "ytmpjanpmkmlloaadoor", sum := "b61603599c6429a3cf7a71b38f6bb451e10b5b19583a317ebd6acd55e3458289", func := "cubeb/cubebtop.TopOverlap", spec := "topOverlap", unfollowed := true, recurses := true, named := ["math/bits.deBruijn32tab", "math/bits.deBruijn64tab"], apart := false, laid := [("math/bits.deBruijn32tab", laid_math_bits_deBruijn32tab), ("math/bits.deBruijn64tab", laid_math_bits_deBruijn64tab)], narrowed := true }
def TopOverlapUptoSaid : Prop := topOverlapUptoRow.holds Tryd.pinned (OpenSpec.upto topOverlapSpec)

/-- 'cubeblaw06.ChordalCovers', WHERE WHAT IT READS IS OF BULK AT MOST 1048576: true; the input reads as it did. -/
def chordalCoversUptoRow : OpenClaim := { program := "ytmpjanpmkmlloaadoor", sum := "b61603599c6429a3cf7a71b38f6bb451e10b5b19583a317ebd6acd55e3458289", func := "cubeb/cubeblaw06.ChordalCovers", spec := "chordalCovers", unfollowed := true, recurses := true, named := ["math/bits.deBruijn32tab", "math/bits.deBruijn64tab"], apart := false, laid := [("math/bits.deBruijn32tab", laid_math_bits_deBruijn32tab), ("math/bits.deBruijn64tab", laid_math_bits_deBruijn64tab)], narrowed := true }
def ChordalCoversUptoSaid : Prop := chordalCoversUptoRow.holds Tryd.pinned (OpenSpec.upto chordalCoversSpec)

/-- 'cubeblaw06.ChordalPerfect', WHERE WHAT IT READS IS OF BULK AT MOST 1048576: true; the input reads as it did. -/
def chordalPerfectUptoRow : OpenClaim := { program := "ytmpjanpmkmlloaadoor", sum := "b61603599c6429a3cf7a71b38f6bb451e10b5b19583a317ebd6acd55e3458289", func := "cubeb/cubeblaw06.ChordalPerfect", spec := "chordalPerfect", unfollowed := true, recurses := true, named := ["math/bits.deBruijn32tab", "math/bits.deBruijn64tab"], apart := false, laid := [("math/bits.deBruijn32tab", laid_math_bits_deBruijn32tab), ("math/bits.deBruijn64tab", laid_math_bits_deBruijn64tab)], narrowed := true }
def ChordalPerfectUptoSaid : Prop := chordalPerfectUptoRow.holds Tryd.pinned (OpenSpec.upto chordalPerfectSpec)

end Rows
end Go.Proofs.YtmpjanpmkmlloaaDoor
