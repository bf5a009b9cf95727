/-
  DERIVED. GIVEN WITH THE SEED: THE CARDS: each row of YtmjpnfapjcfejaaGreatDoorRows.lean that lists a variable, with what it lists TIED to the program's text (the seventh form; the later family's looks); each row that meets fmt, with fmt's text TOLD by the authors' own Lean function (tested against real Go, not proved from fmt's source: count such statements apart). THE CARD IS WHAT COUNTS. Prove the row's statement (the work); the ties are given (YtmjpnfapjcfejaaGreatDoorTie.lean); close each card by the builder's one call (the guide's Derived/Test/ToyasCard.lean, 'card_holds'). Laid BY PROGRAM, IN A SANDBOX (cutbox-door.mjs). By AI agents, Wed Nov 11 2026. No macro, syntax, notation, axiom, sorry.
-/
import Derived.Test.YtmjpnfapjcfejaaGreatDoorRows
import GoSem.ClaimSeven
namespace Go.Proofs.YtmjpnfapjcfejaaGreatDoor
namespace Rows

/-- THE TIED CARD OF 'cubeblaw07.RepairShares'. -/
def repairSharesCard : Claim7 := { stood := { row := repairSharesRow, standIns := [], harness := (true, "c41c0b56bdff2531fbfd0b9b3a4a4cf56ccb8f4f2cfe000f226b0830ea699ba5"), looks := false }, kinds := [], alts := [], laidByText := true, laidKinds := [.data, .data], laidTests := true, laidLooks := .later }
def RepairSharesCardSaid : Prop := Claim7.holds Tryz.pinned (.plain (OpenSpec.ofChange repairSharesSpec)) repairSharesCard

/-- THE TIED CARD OF 'cubeblaw07.RepairCertain'. -/
def repairCertainCard : Claim7 := { stood := { row := repairCertainRow, standIns := [], harness := (true, "c41c0b56bdff2531fbfd0b9b3a4a4cf56ccb8f4f2cfe000f226b0830ea699ba5"), looks := false }, kinds := [], alts := [], laidByText := true, laidKinds := [.data, .data], laidTests := true, laidLooks := .later }
def RepairCertainCardSaid : Prop := Claim7.holds Tryz.pinned (.plain (OpenSpec.ofChange repairCertainSpec)) repairCertainCard

/-- THE TIED CARD OF 'cubeblaw07.RepairMore'. -/
def repairMoreCard : Claim7 := { stood := { row := repairMoreRow, standIns := [], harness := (true, "c41c0b56bdff2531fbfd0b9b3a4a4cf56ccb8f4f2cfe000f226b0830ea699ba5"), looks := false }, kinds := [], alts := [], laidByText := true, laidKinds := [.data, .data], laidTests := true, laidLooks := .later }
def RepairMoreCardSaid : Prop := Claim7.holds Tryz.pinned (.plain (OpenSpec.ofChange repairMoreSpec)) repairMoreCard

/-- THE TIED CARD OF 'cubeblaw07.RepairProducts'. -/
def repairProductsCard : Claim7 := { stood := { row := repairProductsRow, standIns := [], harness := (true, "c41c0b56bdff2531fbfd0b9b3a4a4cf56ccb8f4f2cfe000f226b0830ea699ba5"), looks := false }, kinds := [], alts := [], laidByText := true, laidKinds := [.data, .data], laidTests := true, laidLooks := .later }
def RepairProductsCardSaid : Prop := Claim7.holds Tryz.pinned (.plain (OpenSpec.ofChange repairProductsSpec)) repairProductsCard

/-- THE TIED CARD OF 'cubeblaw07.RepairAsked'. -/
def repairAskedCard : Claim7 := { stood := { row := repairAskedRow, standIns := [], harness := (true, "c41c0b56bdff2531fbfd0b9b3a4a4cf56ccb8f4f2cfe000f226b0830ea699ba5"), looks := false }, kinds := [], alts := [], laidByText := true, laidKinds := [.data, .data], laidTests := true, laidLooks := .later }
def RepairAskedCardSaid : Prop := Claim7.holds Tryz.pinned (.plain (OpenSpec.ofChange repairAskedSpec)) repairAskedCard

/-- THE TIED CARD OF 'cubeblaw07.RepairSure'. -/
def repairSureCard : Claim7 := { stood := { row := repairSureRow, standIns := [], harness := (true, "c41c0b56bdff2531fbfd0b9b3a4a4cf56ccb8f4f2cfe000f226b0830ea699ba5"), looks := false }, kinds := [], alts := [], laidByText := true, laidKinds := [.data, .data], laidTests := true, laidLooks := .later }
def RepairSureCardSaid : Prop := Claim7.holds Tryz.pinned (.plain (OpenSpec.ofChange repairSureSpec)) repairSureCard

/-- THE TIED CARD OF 'cubeblaw07.RepairRules'. -/
def repairRulesCard : Claim7 := { stood := { row := repairRulesRow, standIns := [], harness := (true, "c41c0b56bdff2531fbfd0b9b3a4a4cf56ccb8f4f2cfe000f226b0830ea699ba5"), looks := false }, kinds := [], alts := [], laidByText := true, laidKinds := [.data, .data], laidTests := true, laidLooks := .later }
def RepairRulesCardSaid : Prop := Claim7.holds Tryz.pinned (.plain (OpenSpec.ofChange repairRulesSpec)) repairRulesCard

/-- THE TIED CARD OF 'cubeblaw07.RepairOrder'. -/
def repairOrderCard : Claim7 := { stood := { row := repairOrderRow, standIns := [], harness := (true, "c41c0b56bdff2531fbfd0b9b3a4a4cf56ccb8f4f2cfe000f226b0830ea699ba5"), looks := false }, kinds := [], alts := [], laidByText := true, laidKinds := [.data, .data], laidTests := true, laidLooks := .later }
def RepairOrderCardSaid : Prop := Claim7.holds Tryz.pinned (.plain (OpenSpec.ofChange repairOrderSpec)) repairOrderCard

/-- THE SECOND FORM's CARD OF 'cubeblaw07.RepairShares'. -/
def repairSharesUptoCard : Claim7 := { stood := { row := repairSharesUptoRow, standIns := [], harness := (true, "c41c0b56bdff2531fbfd0b9b3a4a4cf56ccb8f4f2cfe000f226b0830ea699ba5"), looks := false }, kinds := [], alts := [], laidByText := true, laidKinds := [.data, .data], laidTests := true, laidLooks := .later }
def RepairSharesUptoCardSaid : Prop := Claim7.holds Tryz.pinned (.plain (OpenSpec.upto repairSharesSpec)) repairSharesUptoCard

/-- THE SECOND FORM's CARD OF 'cubeblaw07.RepairCertain'. -/
def repairCertainUptoCard : Claim7 := { stood := { row := repairCertainUptoRow, standIns := [], harness := (true, "c41c0b56bdff2531fbfd0b9b3a4a4cf56ccb8f4f2cfe000f226b0830ea699ba5"), looks := false }, kinds := [], alts := [], laidByText := true, laidKinds := [.data, .data], laidTests := true, laidLooks := .later }
def RepairCertainUptoCardSaid : Prop := Claim7.holds Tryz.pinned (.plain (OpenSpec.upto repairCertainSpec)) repairCertainUptoCard

/-- THE SECOND FORM's CARD OF 'cubeblaw07.RepairMore'. -/
def repairMoreUptoCard : Claim7 := { stood := { row := repairMoreUptoRow, standIns := [], harness := (true, "c41c0b56bdff2531fbfd0b9b3a4a4cf56ccb8f4f2cfe000f226b0830ea699ba5"), looks := false }, kinds := [], alts := [], laidByText := true, laidKinds := [.data, .data], laidTests := true, laidLooks := .later }
def RepairMoreUptoCardSaid : Prop := Claim7.holds Tryz.pinned (.plain (OpenSpec.upto repairMoreSpec)) repairMoreUptoCard

/-- THE SECOND FORM's CARD OF 'cubeblaw07.RepairProducts'. -/
def repairProductsUptoCard : Claim7 := { stood := { row := repairProductsUptoRow, standIns := [], harness := (true, "c41c0b56bdff2531fbfd0b9b3a4a4cf56ccb8f4f2cfe000f226b0830ea699ba5"), looks := false }, kinds := [], alts := [], laidByText := true, laidKinds := [.data, .data], laidTests := true, laidLooks := .later }
def RepairProductsUptoCardSaid : Prop := Claim7.holds Tryz.pinned (.plain (OpenSpec.upto repairProductsSpec)) repairProductsUptoCard

/-- THE SECOND FORM's CARD OF 'cubeblaw07.RepairAsked'. -/
def repairAskedUptoCard : Claim7 := { stood := { row := repairAskedUptoRow, standIns := [], harness := (true, "c41c0b56bdff2531fbfd0b9b3a4a4cf56ccb8f4f2cfe000f226b0830ea699ba5"), looks := false }, kinds := [], alts := [], laidByText := true, laidKinds := [.data, .data], laidTests := true, laidLooks := .later }
def RepairAskedUptoCardSaid : Prop := Claim7.holds Tryz.pinned (.plain (OpenSpec.upto repairAskedSpec)) repairAskedUptoCard

/-- THE SECOND FORM's CARD OF 'cubeblaw07.RepairSure'. -/
def repairSureUptoCard : Claim7 := { stood := { row := repairSureUptoRow, standIns := [], harness := (true, "c41c0b56bdff2531fbfd0b9b3a4a4cf56ccb8f4f2cfe000f226b0830ea699ba5"), looks := false }, kinds := [], alts := [], laidByText := true, laidKinds := [.data, .data], laidTests := true, laidLooks := .later }
def RepairSureUptoCardSaid : Prop := Claim7.holds Tryz.pinned (.plain (OpenSpec.upto repairSureSpec)) repairSureUptoCard

/-- THE SECOND FORM's CARD OF 'cubeblaw07.RepairRules'. -/
def repairRulesUptoCard : Claim7 := { stood := { row := repairRulesUptoRow, standIns := [], harness := (true, "c41c0b56bdff2531fbfd0b9b3a4a4cf56ccb8f4f2cfe000f226b0830ea699ba5"), looks := false }, kinds := [], alts := [], laidByText := true, laidKinds := [.data, .data], laidTests := true, laidLooks := .later }
def RepairRulesUptoCardSaid : Prop := Claim7.holds Tryz.pinned (.plain (OpenSpec.upto repairRulesSpec)) repairRulesUptoCard

/-- THE SECOND FORM's CARD OF 'cubeblaw07.RepairOrder'. -/
def repairOrderUptoCard : Claim7 := { stood := { row := repairOrderUptoRow, standIns := [], harness := (true, "c41c0b56bdff2531fbfd0b9b3a4a4cf56ccb8f4f2cfe000f226b0830ea699ba5"), looks := false }, kinds := [], alts := [], laidByText := true, laidKinds := [.data, .data], laidTests := true, laidLooks := .later }
def RepairOrderUptoCardSaid : Prop := Claim7.holds Tryz.pinned (.plain (OpenSpec.upto repairOrderSpec)) repairOrderUptoCard
end Rows
end Go.Proofs.YtmjpnfapjcfejaaGreatDoor
