/-
  NARROWER THAN 'FOR EVERY INPUT', by the rows' own cells (each row's printed sentence says how): RepairShares: laid · RepairCertain: laid · RepairMore: laid · RepairProducts: laid · RepairAsked: laid · RepairSure: laid · RepairRules: laid · RepairOrder: laid.
  DERIVED. THE GIVEN ROWS OF THIS SEAT. 8 by the template 'for every input the law returns true; each argument reads behind the call as it read before'; 0 by the template 'total and deterministic' (their statements: YtmjpnfapjcfejaaGreatDoorTotals.lean).
  GIVEN WITH THE SEED: the statements are not yours to turn. If you find one false, say at which input.
  Laid BY PROGRAM, IN A SANDBOX (cutbox-rows.mjs): the forced cells as the released guide's own fill.sh prints them over the translation 498c3e564656134b… (all of the seat's roots in one cut). By AI agents, Wed Nov 11 2026. No macro, syntax, notation, axiom, sorry.
-/
import Derived.Test.YtmjpnfapjcfejaaGreatDoorChecked
import GoSem.Claim
import GoSem.ClaimJoined
import GoSem.ClaimMapViews
import Derived.JoinedTies
import Derived.KernelRfl
namespace Go.Proofs.YtmjpnfapjcfejaaGreatDoor
/- THE CELL 'sum', in the pinned program and in every row, IS THE sha256 OF THE DUMP (.gsa) THAT YtmjpnfapjcfejaaGreatDoorProg.lean LOADS. Nothing in Lean hashes anything: it is a label: what it is worth is what the hold of that sum in a sandbox is worth. -/
noncomputable def Tryz.pinned : Pinned := { name := "ytmjpnfapjcfejaagreatdoor", sum := "498c3e564656134b10ead2de5b114c3c845a046685f8c4a24226864a2c43525d", checked := Tryz.checked }
namespace Rows
def none {H : Type} : Left H := { results := [], args := [] }

/- WHAT THE LISTED PACKAGE-LEVEL VARIABLES READ AS WHEN THE CALL BEGINS. Each datum BY PROGRAM (the guide's laid-datum.mjs) off the statement by which the dump's own 'gosem.cut.vars' lays the variable. In a bare row this is a premise. The card (YtmjpnfapjcfejaaGreatDoorCards.lean) ties it to the program's text. -/
def laid_math_bits_deBruijn32tab {H : Type} : DataW H := .agg [.lit (.int .u8 0), .lit (.int .u8 1), .lit (.int .u8 28), .lit (.int .u8 2), .lit (.int .u8 29), .lit (.int .u8 14), .lit (.int .u8 24), .lit (.int .u8 3), .lit (.int .u8 30), .lit (.int .u8 22), .lit (.int .u8 20), .lit (.int .u8 15), .lit (.int .u8 25), .lit (.int .u8 17), .lit (.int .u8 4), .lit (.int .u8 8), .lit (.int .u8 31), .lit (.int .u8 27), .lit (.int .u8 13), .lit (.int .u8 23), .lit (.int .u8 21), .lit (.int .u8 19), .lit (.int .u8 16), .lit (.int .u8 7), .lit (.int .u8 26), .lit (.int .u8 12), .lit (.int .u8 18), .lit (.int .u8 6), .lit (.int .u8 11), .lit (.int .u8 5), .lit (.int .u8 10), .lit (.int .u8 9)]
def laid_math_bits_deBruijn64tab {H : Type} : DataW H := .agg [.lit (.int .u8 0), .lit (.int .u8 1), .lit (.int .u8 56), .lit (.int .u8 2), .lit (.int .u8 57), .lit (.int .u8 49), .lit (.int .u8 28), .lit (.int .u8 3), .lit (.int .u8 61), .lit (.int .u8 58), .lit (.int .u8 42), .lit (.int .u8 50), .lit (.int .u8 38), .lit (.int .u8 29), .lit (.int .u8 17), .lit (.int .u8 4), .lit (.int .u8 62), .lit (.int .u8 47), .lit (.int .u8 59), .lit (.int .u8 36), .lit (.int .u8 45), .lit (.int .u8 43), .lit (.int .u8 51), .lit (.int .u8 22), .lit (.int .u8 53), .lit (.int .u8 39), .lit (.int .u8 33), .lit (.int .u8 30), .lit (.int .u8 24), .lit (.int .u8 18), .lit (.int .u8 12), .lit (.int .u8 5), .lit (.int .u8 63), .lit (.int .u8 55), .lit (.int .u8 48), .lit (.int .u8 27), .lit (.int .u8 60), .lit (.int .u8 41), .lit (.int .u8 37), .lit (.int .u8 16), .lit (.int .u8 46), .lit (.int .u8 35), .lit (.int .u8 44), .lit (.int .u8 21), .lit (.int .u8 52), .lit (.int .u8 32), .lit (.int .u8 23), .lit (.int .u8 11), .lit (.int .u8 54), .lit (.int .u8 26), .lit (.int .u8 40), .lit (.int .u8 15), .lit (.int .u8 34), .lit (.int .u8 20), .lit (.int .u8 31), .lit (.int .u8 10), .lit (.int .u8 25), .lit (.int .u8 14), .lit (.int .u8 19), .lit (.int .u8 9), .lit (.int .u8 13), .lit (.int .u8 8), .lit (.int .u8 7), .lit (.int .u8 6)]

/-- 'cubeblaw07.RepairShares': WHATEVER THE INPUT: true; the input reads as it did. -/
def repairSharesSpec : ChangeSpec := { name := "repairShares", fn := fun _ => fun
  | [d1, d2, d3] => { results := [.lit (.bool true)], args := [d1, d2, d3] }
  | _ => none }
def repairSharesRow : OpenClaim := { program := "ytmjpnfapjcfejaagreatdoor", sum := "498c3e564656134b10ead2de5b114c3c845a046685f8c4a24226864a2c43525d", func := "cubeb/cubeblaw07.RepairShares", spec := "repairShares", unfollowed := true, recurses := true, named := ["math/bits.deBruijn32tab", "math/bits.deBruijn64tab"], plainKeys := false, apart := false, laid := [("math/bits.deBruijn32tab", laid_math_bits_deBruijn32tab), ("math/bits.deBruijn64tab", laid_math_bits_deBruijn64tab)] }
def RepairSharesSaid : Prop := repairSharesRow.holds Tryz.pinned (OpenSpec.ofChange repairSharesSpec)

/-- ITS FALSE NEIGHBOUR: 'it returns false'. Refute it at one input. -/
def repairSharesWrong : ChangeSpec := { name := "repairShares", fn := fun _ => fun
  | [d1, d2, d3] => { results := [.lit (.bool false)], args := [d1, d2, d3] }
  | _ => none }
def RepairSharesWrongFalsely : Prop := repairSharesRow.holds Tryz.pinned (OpenSpec.ofChange repairSharesWrong)

/-- 'cubeblaw07.RepairCertain': WHATEVER THE INPUT: true; the input reads as it did. -/
def repairCertainSpec : ChangeSpec := { name := "repairCertain", fn := fun _ => fun
  | [d1, d2, d3] => { results := [.lit (.bool true)], args := [d1, d2, d3] }
  | _ => none }
def repairCertainRow : OpenClaim := { program := "ytmjpnfapjcfejaagreatdoor", sum := "498c3e564656134b10ead2de5b114c3c845a046685f8c4a24226864a2c43525d", func := "cubeb/cubeblaw07.RepairCertain", spec := "repairCertain", unfollowed := true, recurses := true, named := ["math/bits.deBruijn32tab", "math/bits.deBruijn64tab"], plainKeys := false, apart := false, laid := [("math/bits.deBruijn32tab", laid_math_bits_deBruijn32tab), ("math/bits.deBruijn64tab", laid_math_bits_deBruijn64tab)] }
def RepairCertainSaid : Prop := repairCertainRow.holds Tryz.pinned (OpenSpec.ofChange repairCertainSpec)

/-- ITS FALSE NEIGHBOUR: 'it returns false'. Refute it at one input. -/
def repairCertainWrong : ChangeSpec := { name := "repairCertain", fn := fun _ => fun
  | [d1, d2, d3] => { results := [.lit (.bool false)], args := [d1, d2, d3] }
  | _ => none }
def RepairCertainWrongFalsely : Prop := repairCertainRow.holds Tryz.pinned (OpenSpec.ofChange repairCertainWrong)

/-- 'cubeblaw07.RepairMore': WHATEVER THE INPUT: true; the input reads as it did. -/
def repairMoreSpec : ChangeSpec := { name := "repairMore", fn := fun _ => fun
  | [d1, d2, d3, d4] => { results := [.lit (.bool true)], args := [d1, d2, d3, d4] }
  | _ => none }
def repairMoreRow : OpenClaim := { program := "ytmjpnfapjcfejaagreatdoor", sum := "498c3e564656134b10ead2de5b114c3c845a046685f8c4a24226864a2c43525d", func := "cubeb/cubeblaw07.RepairMore", spec := "repairMore", unfollowed := true, recurses := true, named := ["math/bits.deBruijn32tab", "math/bits.deBruijn64tab"], plainKeys := false, apart := false, laid := [("math/bits.deBruijn32tab", laid_math_bits_deBruijn32tab), ("math/bits.deBruijn64tab", laid_math_bits_deBruijn64tab)] }
def RepairMoreSaid : Prop := repairMoreRow.holds Tryz.pinned (OpenSpec.ofChange repairMoreSpec)

/-- ITS FALSE NEIGHBOUR: 'it returns false'. Refute it at one input. -/
def repairMoreWrong : ChangeSpec := { name := "repairMore", fn := fun _ => fun
  | [d1, d2, d3, d4] => { results := [.lit (.bool false)], args := [d1, d2, d3, d4] }
  | _ => none }
def RepairMoreWrongFalsely : Prop := repairMoreRow.holds Tryz.pinned (OpenSpec.ofChange repairMoreWrong)

/-- 'cubeblaw07.RepairProducts': WHATEVER THE INPUT: true; the input reads as it did. -/
def repairProductsSpec : ChangeSpec := { name := "repairProducts", fn := fun _ => fun
  | [d1, d2, d3] => { results := [.lit (.bool true)], args := [d1, d2, d3] }
  | _ => none }
def repairProductsRow : OpenClaim := { program := "ytmjpnfapjcfejaagreatdoor", sum := "498c3e564656134b10ead2de5b114c3c845a046685f8c4a24226864a2c43525d", func := "cubeb/cubeblaw07.RepairProducts", spec := "repairProducts", unfollowed := true, recurses := true, named := ["math/bits.deBruijn32tab", "math/bits.deBruijn64tab"], plainKeys := false, apart := false, laid := [("math/bits.deBruijn32tab", laid_math_bits_deBruijn32tab), ("math/bits.deBruijn64tab", laid_math_bits_deBruijn64tab)] }
def RepairProductsSaid : Prop := repairProductsRow.holds Tryz.pinned (OpenSpec.ofChange repairProductsSpec)

/-- ITS FALSE NEIGHBOUR: 'it returns false'. Refute it at one input. -/
def repairProductsWrong : ChangeSpec := { name := "repairProducts", fn := fun _ => fun
  | [d1, d2, d3] => { results := [.lit (.bool false)], args := [d1, d2, d3] }
  | _ => none }
def RepairProductsWrongFalsely : Prop := repairProductsRow.holds Tryz.pinned (OpenSpec.ofChange repairProductsWrong)

/-- 'cubeblaw07.RepairAsked': WHATEVER THE INPUT: true; the input reads as it did. -/
def repairAskedSpec : ChangeSpec := { name := "repairAsked", fn := fun _ => fun
  | [d1, d2, d3, d4] => { results := [.lit (.bool true)], args := [d1, d2, d3, d4] }
  | _ => none }
def repairAskedRow : OpenClaim := { program := "ytmjpnfapjcfejaagreatdoor", sum := "498c3e564656134b10ead2de5b114c3c845a046685f8c4a24226864a2c43525d", func := "cubeb/cubeblaw07.RepairAsked", spec := "repairAsked", unfollowed := true, recurses := true, named := ["math/bits.deBruijn32tab", "math/bits.deBruijn64tab"], plainKeys := false, apart := false, laid := [("math/bits.deBruijn32tab", laid_math_bits_deBruijn32tab), ("math/bits.deBruijn64tab", laid_math_bits_deBruijn64tab)] }
def RepairAskedSaid : Prop := repairAskedRow.holds Tryz.pinned (OpenSpec.ofChange repairAskedSpec)

/-- ITS FALSE NEIGHBOUR: 'it returns false'. Refute it at one input. -/
def repairAskedWrong : ChangeSpec := { name := "repairAsked", fn := fun _ => fun
  | [d1, d2, d3, d4] => { results := [.lit (.bool false)], args := [d1, d2, d3, d4] }
  | _ => none }
def RepairAskedWrongFalsely : Prop := repairAskedRow.holds Tryz.pinned (OpenSpec.ofChange repairAskedWrong)

/-- 'cubeblaw07.RepairSure': WHATEVER THE INPUT: true; the input reads as it did. -/
def repairSureSpec : ChangeSpec := { name := "repairSure", fn := fun _ => fun
  | [d1, d2, d3] => { results := [.lit (.bool true)], args := [d1, d2, d3] }
  | _ => none }
def repairSureRow : OpenClaim := { program := "ytmjpnfapjcfejaagreatdoor", sum := "498c3e564656134b10ead2de5b114c3c845a046685f8c4a24226864a2c43525d", func := "cubeb/cubeblaw07.RepairSure", spec := "repairSure", unfollowed := true, recurses := true, named := ["math/bits.deBruijn32tab", "math/bits.deBruijn64tab"], plainKeys := false, apart := false, laid := [("math/bits.deBruijn32tab", laid_math_bits_deBruijn32tab), ("math/bits.deBruijn64tab", laid_math_bits_deBruijn64tab)] }
def RepairSureSaid : Prop := repairSureRow.holds Tryz.pinned (OpenSpec.ofChange repairSureSpec)

/-- ITS FALSE NEIGHBOUR: 'it returns false'. Refute it at one input. -/
def repairSureWrong : ChangeSpec := { name := "repairSure", fn := fun _ => fun
  | [d1, d2, d3] => { results := [.lit (.bool false)], args := [d1, d2, d3] }
  | _ => none }
def RepairSureWrongFalsely : Prop := repairSureRow.holds Tryz.pinned (OpenSpec.ofChange repairSureWrong)

/-- 'cubeblaw07.RepairRules': WHATEVER THE INPUT: true; the input reads as it did. -/
def repairRulesSpec : ChangeSpec := { name := "repairRules", fn := fun _ => fun
  | [d1, d2, d3] => { results := [.lit (.bool true)], args := [d1, d2, d3] }
  | _ => none }
def repairRulesRow : OpenClaim := { program := "ytmjpnfapjcfejaagreatdoor", sum := "498c3e564656134b10ead2de5b114c3c845a046685f8c4a24226864a2c43525d", func := "cubeb/cubeblaw07.RepairRules", spec := "repairRules", unfollowed := true, recurses := true, named := ["math/bits.deBruijn32tab", "math/bits.deBruijn64tab"], plainKeys := false, apart := false, laid := [("math/bits.deBruijn32tab", laid_math_bits_deBruijn32tab), ("math/bits.deBruijn64tab", laid_math_bits_deBruijn64tab)] }
def RepairRulesSaid : Prop := repairRulesRow.holds Tryz.pinned (OpenSpec.ofChange repairRulesSpec)

/-- ITS FALSE NEIGHBOUR: 'it returns false'. Refute it at one input. -/
def repairRulesWrong : ChangeSpec := { name := "repairRules", fn := fun _ => fun
  | [d1, d2, d3] => { results := [.lit (.bool false)], args := [d1, d2, d3] }
  | _ => none }
def RepairRulesWrongFalsely : Prop := repairRulesRow.holds Tryz.pinned (OpenSpec.ofChange repairRulesWrong)

/-- 'cubeblaw07.RepairOrder': WHATEVER THE INPUT: true; the input reads as it did. -/
def repairOrderSpec : ChangeSpec := { name := "repairOrder", fn := fun _ => fun
  | [d1, d2, d3] => { results := [.lit (.bool true)], args := [d1, d2, d3] }
  | _ => none }
def repairOrderRow : OpenClaim := { program := "ytmjpnfapjcfejaagreatdoor", sum := "498c3e564656134b10ead2de5b114c3c845a046685f8c4a24226864a2c43525d", func := "cubeb/cubeblaw07.RepairOrder", spec := "repairOrder", unfollowed := true, recurses := true, named := ["math/bits.deBruijn32tab", "math/bits.deBruijn64tab"], plainKeys := false, apart := false, laid := [("math/bits.deBruijn32tab", laid_math_bits_deBruijn32tab), ("math/bits.deBruijn64tab", laid_math_bits_deBruijn64tab)] }
def RepairOrderSaid : Prop := repairOrderRow.holds Tryz.pinned (OpenSpec.ofChange repairOrderSpec)

/-- ITS FALSE NEIGHBOUR: 'it returns false'. Refute it at one input. -/
def repairOrderWrong : ChangeSpec := { name := "repairOrder", fn := fun _ => fun
  | [d1, d2, d3] => { results := [.lit (.bool false)], args := [d1, d2, d3] }
  | _ => none }
def RepairOrderWrongFalsely : Prop := repairOrderRow.holds Tryz.pinned (OpenSpec.ofChange repairOrderWrong)

/- THE SECOND FORM. 'bulk': how many values and letters a reading holds, each counted each time it is reached (what is shared counts as often as it is met; a slice's spare places count too). A statement '..UptoSaid' is the law's where the arguments, and the package variables that the reading takes, are together of bulk at most 1048576: NARROWER than '..Said'. Prove '..Said' where nothing that the law and all that it calls make is longer than what came in: it says more and counts as full. Else prove '..UptoSaid'. A law counts once. -/
mutual
def uptoBulk {H : Type} : DataW H → Nat
  | .lit (.string bytes) => bytes.length + 1
  | .lit _ => 1
  | .nil => 1
  | .ptr d => uptoBulk d + 1
  | .slice elems spare => uptoBulkAll elems + uptoBulkAll spare + 1
  | .agg parts => uptoBulkAll parts + 1
  | .iface _ d => uptoBulk d + 1
  | .map entries => uptoBulkEntries entries + 1
  | .held _ => 1
def uptoBulkAll {H : Type} : List (DataW H) → Nat
  | [] => 0
  | d :: r => uptoBulk d + uptoBulkAll r
def uptoBulkEntries {H : Type} : List (Lit × DataW H) → Nat
  | [] => 0
  | x :: r => uptoBulkEntry x + uptoBulkEntries r
def uptoBulkEntry {H : Type} : Lit × DataW H → Nat
  | (.string bytes, d) => bytes.length + uptoBulk d + 1
  | (_, d) => uptoBulk d + 1
 end
def uptoSmall : (H : Type) → List (DataW H) → Bool := fun _ ds => decide (uptoBulkAll ds ≤ 1048576)
def OpenSpec.upto (s : _root_.Go.ChangeSpec) : _root_.Go.OpenSpec := { _root_.Go.OpenSpec.ofChange s with cond := some uptoSmall }

/-- 'cubeblaw07.RepairShares', WHERE WHAT IT READS IS OF BULK AT MOST 1048576: true; the input reads as it did. -/
def repairSharesUptoRow : OpenClaim := { program := "ytmjpnfapjcfejaagreatdoor", sum := "498c3e564656134b10ead2de5b114c3c845a046685f8c4a24226864a2c43525d", func := "cubeb/cubeblaw07.RepairShares", spec := "repairShares", unfollowed := true, recurses := true, named := ["math/bits.deBruijn32tab", "math/bits.deBruijn64tab"], plainKeys := false, apart := false, laid := [("math/bits.deBruijn32tab", laid_math_bits_deBruijn32tab), ("math/bits.deBruijn64tab", laid_math_bits_deBruijn64tab)], narrowed := true }
def RepairSharesUptoSaid : Prop := repairSharesUptoRow.holds Tryz.pinned (OpenSpec.upto repairSharesSpec)

/-- 'cubeblaw07.RepairCertain', WHERE WHAT IT READS IS OF BULK AT MOST 1048576: true; the input reads as it did. -/
def repairCertainUptoRow : OpenClaim := { program := "ytmjpnfapjcfejaagreatdoor", sum := "498c3e564656134b10ead2de5b114c3c845a046685f8c4a24226864a2c43525d", func := "cubeb/cubeblaw07.RepairCertain", spec := "repairCertain", unfollowed := true, recurses := true, named := ["math/bits.deBruijn32tab", "math/bits.deBruijn64tab"], plainKeys := false, apart := false, laid := [("math/bits.deBruijn32tab", laid_math_bits_deBruijn32tab), ("math/bits.deBruijn64tab", laid_math_bits_deBruijn64tab)], narrowed := true }
def RepairCertainUptoSaid : Prop := repairCertainUptoRow.holds Tryz.pinned (OpenSpec.upto repairCertainSpec)

/-- 'cubeblaw07.RepairMore', WHERE WHAT IT READS IS OF BULK AT MOST 1048576: true; the input reads as it did. -/
def repairMoreUptoRow : OpenClaim := { program := "ytmjpnfapjcfejaagreatdoor", sum := "498c3e564656134b10ead2de5b114c3c845a046685f8c4a24226864a2c43525d", func := "cubeb/cubeblaw07.RepairMore", spec := "repairMore", unfollowed := true, recurses := true, named := ["math/bits.deBruijn32tab", "math/bits.deBruijn64tab"], plainKeys := false, apart := false, laid := [("math/bits.deBruijn32tab", laid_math_bits_deBruijn32tab), ("math/bits.deBruijn64tab", laid_math_bits_deBruijn64tab)], narrowed := true }
def RepairMoreUptoSaid : Prop := repairMoreUptoRow.holds Tryz.pinned (OpenSpec.upto repairMoreSpec)

/-- 'cubeblaw07.RepairProducts', WHERE WHAT IT READS IS OF BULK AT MOST 1048576: true; the input reads as it did. -/
def repairProductsUptoRow : OpenClaim := { program := "ytmjpnfapjcfejaagreatdoor", sum := "498c3e564656134b10ead2de5b114c3c845a046685f8c4a24226864a2c43525d", func := "cubeb/cubeblaw07.RepairProducts", spec := "repairProducts", unfollowed := true, recurses := true, named := ["math/bits.deBruijn32tab", "math/bits.deBruijn64tab"], plainKeys := false, apart := false, laid := [("math/bits.deBruijn32tab", laid_math_bits_deBruijn32tab), ("math/bits.deBruijn64tab", laid_math_bits_deBruijn64tab)], narrowed := true }
def RepairProductsUptoSaid : Prop := repairProductsUptoRow.holds Tryz.pinned (OpenSpec.upto repairProductsSpec)

/-- 'cubeblaw07.RepairAsked', WHERE WHAT IT READS IS OF BULK AT MOST 1048576: true; the input reads as it did. -/
def repairAskedUptoRow : OpenClaim := { program := "ytmjpnfapjcfejaagreatdoor", sum := "498c3e564656134b10ead2de5b114c3c845a046685f8c4a24226864a2c43525d", func := "cubeb/cubeblaw07.RepairAsked", spec := "repairAsked", unfollowed := true, recurses := true, named := ["math/bits.deBruijn32tab", "math/bits.deBruijn64tab"], plainKeys := false, apart := false, laid := [("math/bits.deBruijn32tab", laid_math_bits_deBruijn32tab), ("math/bits.deBruijn64tab", laid_math_bits_deBruijn64tab)], narrowed := true }
def RepairAskedUptoSaid : Prop := repairAskedUptoRow.holds Tryz.pinned (OpenSpec.upto repairAskedSpec)

/-- 'cubeblaw07.RepairSure', WHERE WHAT IT READS IS OF BULK AT MOST 1048576: true; the input reads as it did. -/
def repairSureUptoRow : OpenClaim := { program := "ytmjpnfapjcfejaagreatdoor", sum := "498c3e564656134b10ead2de5b114c3c845a046685f8c4a24226864a2c43525d", func := "cubeb/cubeblaw07.RepairSure", spec := "repairSure", unfollowed := true, recurses := true, named := ["math/bits.deBruijn32tab", "math/bits.deBruijn64tab"], plainKeys := false, apart := false, laid := [("math/bits.deBruijn32tab", laid_math_bits_deBruijn32tab), ("math/bits.deBruijn64tab", laid_math_bits_deBruijn64tab)], narrowed := true }
def RepairSureUptoSaid : Prop := repairSureUptoRow.holds Tryz.pinned (OpenSpec.upto repairSureSpec)

/-- 'cubeblaw07.RepairRules', WHERE WHAT IT READS IS OF BULK AT MOST 1048576: true; the input reads as it did. -/
def repairRulesUptoRow : OpenClaim := { program := "ytmjpnfapjcfejaagreatdoor", sum := "498c3e564656134b10ead2de5b114c3c845a046685f8c4a24226864a2c43525d", func := "cubeb/cubeblaw07.RepairRules", spec := "repairRules", unfollowed := true, recurses := true, named := ["math/bits.deBruijn32tab", "math/bits.deBruijn64tab"], plainKeys := false, apart := false, laid := [("math/bits.deBruijn32tab", laid_math_bits_deBruijn32tab), ("math/bits.deBruijn64tab", laid_math_bits_deBruijn64tab)], narrowed := true }
def RepairRulesUptoSaid : Prop := repairRulesUptoRow.holds Tryz.pinned (OpenSpec.upto repairRulesSpec)

/-- 'cubeblaw07.RepairOrder', WHERE WHAT IT READS IS OF BULK AT MOST 1048576: true; the input reads as it did. -/
def repairOrderUptoRow : OpenClaim := { program := "ytmjpnfapjcfejaagreatdoor", sum := "498c3e564656134b10ead2de5b114c3c845a046685f8c4a24226864a2c43525d", func := "cubeb/cubeblaw07.RepairOrder", spec := "repairOrder", unfollowed := true, recurses := true, named := ["math/bits.deBruijn32tab", "math/bits.deBruijn64tab"], plainKeys := false, apart := false, laid := [("math/bits.deBruijn32tab", laid_math_bits_deBruijn32tab), ("math/bits.deBruijn64tab", laid_math_bits_deBruijn64tab)], narrowed := true }
def RepairOrderUptoSaid : Prop := repairOrderUptoRow.holds Tryz.pinned (OpenSpec.upto repairOrderSpec)

end Rows
end Go.Proofs.YtmjpnfapjcfejaaGreatDoor
