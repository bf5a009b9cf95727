/-
  DERIVED. GIVEN WITH THE SEED: THE CARDS: each row of YtmpjanpmkmlloaaDoorRows.lean that lists a variable, with what it lists TIED to the program's text (the seventh form; the later family's looks); each row that meets fmt, with fmt's text TOLD by the authors' own Lean function (tested against real Go, not proved from fmt's source: count such statements apart). THE CARD IS WHAT COUNTS. Prove the row's statement (the work); the ties are given (YtmpjanpmkmlloaaDoorTie.lean); close each card by the builder's one call (the guide's Derived/Test/ToyasCard.lean, 'card_holds'). Laid BY PROGRAM, IN A SANDBOX (cutbox-door.mjs). By AI agents, Wed Nov 11 2026. No macro, syntax, notation, axiom, sorry.
-/
import Derived.Test.YtmpjanpmkmlloaaDoorRows
import GoSem.ClaimSeven
namespace Go.Proofs.YtmpjanpmkmlloaaDoor
namespace Rows

/-- THE TIED CARD OF 'cubeblaw06.ChordalOrders'. -/
def chordalOrdersCard : Claim7 := { stood := { row := chordalOrdersRow, standIns := [], harness := (true, "05b8b8dc3efe0a47754d10d6f8141d9fc26f9e419f18378420853d52b290e4b1"), looks := false }, kinds := [], alts := [], laidByText := true, laidKinds := [.data, .data], laidTests := true, laidLooks := .later }
def ChordalOrdersCardSaid : Prop := Claim7.holds Tryd.pinned (.plain (OpenSpec.ofChange chordalOrdersSpec)) chordalOrdersCard

/-- THE TIED CARD OF 'cubeblaw06.ChordalTurned'. -/
def chordalTurnedCard : Claim7 := { stood := { row := chordalTurnedRow, standIns := [], harness := (true, "05b8b8dc3efe0a47754d10d6f8141d9fc26f9e419f18378420853d52b290e4b1"), looks := false }, kinds := [], alts := [], laidByText := true, laidKinds := [.data, .data], laidTests := true, laidLooks := .later }
def ChordalTurnedCardSaid : Prop := Claim7.holds Tryd.pinned (.plain (OpenSpec.ofChange chordalTurnedSpec)) chordalTurnedCard

/-- THE TIED CARD OF 'cubeblaw06.ChordalHoles'. -/
def chordalHolesCard : Claim7 := { stood := { row := chordalHolesRow, standIns := [], harness := (true, "05b8b8dc3efe0a47754d10d6f8141d9fc26f9e419f18378420853d52b290e4b1"), looks := false }, kinds := [], alts := [], laidByText := true, laidKinds := [.data, .data], laidTests := true, laidLooks := .later }
def ChordalHolesCardSaid : Prop := Claim7.holds Tryd.pinned (.plain (OpenSpec.ofChange chordalHolesSpec)) chordalHolesCard

/-- THE TIED CARD OF 'cubeblaw06.ChordalParts'. -/
def chordalPartsCard : Claim7 := { stood := { row := chordalPartsRow, standIns := [], harness := (true, "05b8b8dc3efe0a47754d10d6f8141d9fc26f9e419f18378420853d52b290e4b1"), looks := false }, kinds := [], alts := [], laidByText := true, laidKinds := [.data, .data], laidTests := true, laidLooks := .later }
def ChordalPartsCardSaid : Prop := Claim7.holds Tryd.pinned (.plain (OpenSpec.ofChange chordalPartsSpec)) chordalPartsCard

/-- THE TIED CARD OF 'cubeblaw06.ChordalModels'. -/
def chordalModelsCard : Claim7 := { stood := { row := chordalModelsRow, standIns := [], harness := (true, "05b8b8dc3efe0a47754d10d6f8141d9fc26f9e419f18378420853d52b290e4b1"), looks := false }, kinds := [], alts := [], laidByText := true, laidKinds := [.data, .data], laidTests := true, laidLooks := .later }
def ChordalModelsCardSaid : Prop := Claim7.holds Tryd.pinned (.plain (OpenSpec.ofChange chordalModelsSpec)) chordalModelsCard

/-- THE TIED CARD OF 'cubeblaw06.ChordalSpans'. -/
def chordalSpansCard : Claim7 := { stood := { row := chordalSpansRow, standIns := [], harness := (true, "05b8b8dc3efe0a47754d10d6f8141d9fc26f9e419f18378420853d52b290e4b1"), looks := false }, kinds := [], alts := [], laidByText := true, laidKinds := [.data, .data], laidTests := true, laidLooks := .later }
def ChordalSpansCardSaid : Prop := Claim7.holds Tryd.pinned (.plain (OpenSpec.ofChange chordalSpansSpec)) chordalSpansCard

/-- THE TIED CARD OF 'cubeblaw06.ChordalColours'. -/
def chordalColoursCard : Claim7 := { stood := { row := chordalColoursRow, standIns := [], harness := (true, "05b8b8dc3efe0a47754d10d6f8141d9fc26f9e419f18378420853d52b290e4b1"), looks := false }, kinds := [], alts := [], laidByText := true, laidKinds := [.data, .data], laidTests := true, laidLooks := .later }
def ChordalColoursCardSaid : Prop := Claim7.holds Tryd.pinned (.plain (OpenSpec.ofChange chordalColoursSpec)) chordalColoursCard

/-- THE TIED CARD OF 'cubeblaw06.ChordalOne'. -/
def chordalOneCard : Claim7 := { stood := { row := chordalOneRow, standIns := [], harness := (true, "05b8b8dc3efe0a47754d10d6f8141d9fc26f9e419f18378420853d52b290e4b1"), looks := false }, kinds := [], alts := [], laidByText := true, laidKinds := [.data, .data], laidTests := true, laidLooks := .later }
def ChordalOneCardSaid : Prop := Claim7.holds Tryd.pinned (.plain (OpenSpec.ofChange chordalOneSpec)) chordalOneCard

/-- THE TIED CARD OF 'cubeblaw06.ChordalTrees'. -/
def chordalTreesCard : Claim7 := { stood := { row := chordalTreesRow, standIns := [], harness := (true, "05b8b8dc3efe0a47754d10d6f8141d9fc26f9e419f18378420853d52b290e4b1"), looks := false }, kinds := [], alts := [], laidByText := true, laidKinds := [.data, .data], laidTests := true, laidLooks := .later }
def ChordalTreesCardSaid : Prop := Claim7.holds Tryd.pinned (.plain (OpenSpec.ofChange chordalTreesSpec)) chordalTreesCard

/-- THE TIED CARD OF 'cubeblaw06.ChordalFew'. -/
def chordalFewCard : Claim7 := { stood := { row := chordalFewRow, standIns := [], harness := (true, "05b8b8dc3efe0a47754d10d6f8141d9fc26f9e419f18378420853d52b290e4b1"), looks := false }, kinds := [], alts := [], laidByText := true, laidKinds := [.data, .data], laidTests := true, laidLooks := .later }
def ChordalFewCardSaid : Prop := Claim7.holds Tryd.pinned (.plain (OpenSpec.ofChange chordalFewSpec)) chordalFewCard

/-- THE TIED CARD OF 'cubebtop.TopOverlap'. -/
def topOverlapCard : Claim7 := { stood := { row := topOverlapRow, standIns := [], harness := (true, "05b8b8dc3efe0a47754d10d6f8141d9fc26f9e419f18378420853d52b290e4b1"), looks := false }, kinds := [], alts := [], laidByText := true, laidKinds := [.data, .data], laidTests := true, laidLooks := .later }
def TopOverlapCardSaid : Prop := Claim7.holds Tryd.pinned (.plain (OpenSpec.ofChange topOverlapSpec)) topOverlapCard

/-- THE TIED CARD OF 'cubeblaw06.ChordalCovers'. -/
def chordalCoversCard : Claim7 := { stood := { row := chordalCoversRow, standIns := [], harness := (true, "05b8b8dc3efe0a47754d10d6f8141d9fc26f9e419f18378420853d52b290e4b1"), looks := false }, kinds := [], alts := [], laidByText := true, laidKinds := [.data, .data], laidTests := true, laidLooks := .later }
def ChordalCoversCardSaid : Prop := Claim7.holds Tryd.pinned (.plain (OpenSpec.ofChange chordalCoversSpec)) chordalCoversCard

/-- THE TIED CARD OF 'cubeblaw06.ChordalPerfect'. -/
def chordalPerfectCard : Claim7 := { stood := { row := chordalPerfectRow, standIns := [], harness := (true, "05b8b8dc3efe0a47754d10d6f8141d9fc26f9e419f18378420853d52b290e4b1"), looks := false }, kinds := [], alts := [], laidByText := true, laidKinds := [.data, .data], laidTests := true, laidLooks := .later }
def ChordalPerfectCardSaid : Prop := Claim7.holds Tryd.pinned (.plain (OpenSpec.ofChange chordalPerfectSpec)) chordalPerfectCard

/-- THE SECOND FORM's CARD OF 'cubeblaw06.ChordalOrders'. -/
def chordalOrdersUptoCard : Claim7 := { stood := { row := chordalOrdersUptoRow, standIns := [], harness := (true, "05b8b8dc3efe0a47754d10d6f8141d9fc26f9e419f18378420853d52b290e4b1"), looks := false }, kinds := [], alts := [], laidByText := true, laidKinds := [.data, .data], laidTests := true, laidLooks := .later }
def ChordalOrdersUptoCardSaid : Prop := Claim7.holds Tryd.pinned (.plain (OpenSpec.upto chordalOrdersSpec)) chordalOrdersUptoCard

/-- THE SECOND FORM's CARD OF 'cubeblaw06.ChordalTurned'. -/
def chordalTurnedUptoCard : Claim7 := { stood := { row := chordalTurnedUptoRow, standIns := [], harness := (true, "05b8b8dc3efe0a47754d10d6f8141d9fc26f9e419f18378420853d52b290e4b1"), looks := false }, kinds := [], alts := [], laidByText := true, laidKinds := [.data, .data], laidTests := true, laidLooks := .later }
def ChordalTurnedUptoCardSaid : Prop := Claim7.holds Tryd.pinned (.plain (OpenSpec.upto chordalTurnedSpec)) chordalTurnedUptoCard

/-- THE SECOND FORM's CARD OF 'cubeblaw06.ChordalHoles'. -/
def chordalHolesUptoCard : Claim7 := { stood := { row := chordalHolesUptoRow, standIns := [], harness := (true, "05b8b8dc3efe0a47754d10d6f8141d9fc26f9e419f18378420853d52b290e4b1"), looks := false }, kinds := [], alts := [], laidByText := true, laidKinds := [.data, .data], laidTests := true, laidLooks := .later }
def ChordalHolesUptoCardSaid : Prop := Claim7.holds Tryd.pinned (.plain (OpenSpec.upto chordalHolesSpec)) chordalHolesUptoCard

/-- THE SECOND FORM's CARD OF 'cubeblaw06.ChordalParts'. -/
def chordalPartsUptoCard : Claim7 := { stood := { row := chordalPartsUptoRow, standIns := [], harness := (true, "05b8b8dc3efe0a47754d10d6f8141d9fc26f9e419f18378420853d52b290e4b1"), looks := false }, kinds := [], alts := [], laidByText := true, laidKinds := [.data, .data], laidTests := true, laidLooks := .later }
def ChordalPartsUptoCardSaid : Prop := Claim7.holds Tryd.pinned (.plain (OpenSpec.upto chordalPartsSpec)) chordalPartsUptoCard

/-- THE SECOND FORM's CARD OF 'cubeblaw06.ChordalModels'. -/
def chordalModelsUptoCard : Claim7 := { stood := { row := chordalModelsUptoRow, standIns := [], harness := (true, "05b8b8dc3efe0a47754d10d6f8141d9fc26f9e419f18378420853d52b290e4b1"), looks := false }, kinds := [], alts := [], laidByText := true, laidKinds := [.data, .data], laidTests := true, laidLooks := .later }
def ChordalModelsUptoCardSaid : Prop := Claim7.holds Tryd.pinned (.plain (OpenSpec.upto chordalModelsSpec)) chordalModelsUptoCard

/-- THE SECOND FORM's CARD OF 'cubeblaw06.ChordalSpans'. -/
def chordalSpansUptoCard : Claim7 := { stood := { row := chordalSpansUptoRow, standIns := [], harness := (true, "05b8b8dc3efe0a47754d10d6f8141d9fc26f9e419f18378420853d52b290e4b1"), looks := false }, kinds := [], alts := [], laidByText := true, laidKinds := [.data, .data], laidTests := true, laidLooks := .later }
def ChordalSpansUptoCardSaid : Prop := Claim7.holds Tryd.pinned (.plain (OpenSpec.upto chordalSpansSpec)) chordalSpansUptoCard

/-- THE SECOND FORM's CARD OF 'cubeblaw06.ChordalColours'. -/
def chordalColoursUptoCard : Claim7 := { stood := { row := chordalColoursUptoRow, standIns := [], harness := (true, "05b8b8dc3efe0a47754d10d6f8141d9fc26f9e419f18378420853d52b290e4b1"), looks := false }, kinds := [], alts := [], laidByText := true, laidKinds := [.data, .data], laidTests := true, laidLooks := .later }
def ChordalColoursUptoCardSaid : Prop := Claim7.holds Tryd.pinned (.plain (OpenSpec.upto chordalColoursSpec)) chordalColoursUptoCard

/-- THE SECOND FORM's CARD OF 'cubeblaw06.ChordalOne'. -/
def chordalOneUptoCard : Claim7 := { stood := { row := chordalOneUptoRow, standIns := [], harness := (true, "05b8b8dc3efe0a47754d10d6f8141d9fc26f9e419f18378420853d52b290e4b1"), looks := false }, kinds := [], alts := [], laidByText := true, laidKinds := [.data, .data], laidTests := true, laidLooks := .later }
def ChordalOneUptoCardSaid : Prop := Claim7.holds Tryd.pinned (.plain (OpenSpec.upto chordalOneSpec)) chordalOneUptoCard

/-- THE SECOND FORM's CARD OF 'cubeblaw06.ChordalTrees'. -/
def chordalTreesUptoCard : Claim7 := { stood := { row := chordalTreesUptoRow, standIns := [], harness := (true, "05b8b8dc3efe0a47754d10d6f8141d9fc26f9e419f18378420853d52b290e4b1"), looks := false }, kinds := [], alts := [], laidByText := true, laidKinds := [.data, .data], laidTests := true, laidLooks := .later }
def ChordalTreesUptoCardSaid : Prop := Claim7.holds Tryd.pinned (.plain (OpenSpec.upto chordalTreesSpec)) chordalTreesUptoCard

/-- THE SECOND FORM's CARD OF 'cubeblaw06.ChordalFew'. -/
def chordalFewUptoCard : Claim7 := { stood := { row := chordalFewUptoRow, standIns := [], harness := (true, "05b8b8dc3efe0a47754d10d6f8141d9fc26f9e419f18378420853d52b290e4b1"), looks := false }, kinds := [], alts := [], laidByText := true, laidKinds := [.data, .data], laidTests := true, laidLooks := .later }
def ChordalFewUptoCardSaid : Prop := Claim7.holds Tryd.pinned (.plain (OpenSpec.upto chordalFewSpec)) chordalFewUptoCard

/-- THE SECOND FORM's CARD OF 'cubebtop.TopOverlap'. -/
def topOverlapUptoCard : Claim7 := { stood := { row := topOverlapUptoRow, standIns := [], harness := (true, "05b8b8dc3efe0a47754d10d6f8141d9fc26f9e419f18378420853d52b290e4b1"), looks := false }, kinds := [], alts := [], laidByText := true, laidKinds := [.data, .data], laidTests := true, laidLooks := .later }
def TopOverlapUptoCardSaid : Prop := Claim7.holds Tryd.pinned (.plain (OpenSpec.upto topOverlapSpec)) topOverlapUptoCard

/-- THE SECOND FORM's CARD OF 'cubeblaw06.ChordalCovers'. -/
def chordalCoversUptoCard : Claim7 := { stood := { row := chordalCoversUptoRow, standIns := [], harness := (true, "05b8b8dc3efe0a47754d10d6f8141d9fc26f9e419f18378420853d52b290e4b1"), looks := false }, kinds := [], alts := [], laidByText := true, laidKinds := [.data, .data], laidTests := true, laidLooks := .later }
def ChordalCoversUptoCardSaid : Prop := Claim7.holds Tryd.pinned (.plain (OpenSpec.upto chordalCoversSpec)) chordalCoversUptoCard

/-- THE SECOND FORM's CARD OF 'cubeblaw06.ChordalPerfect'. -/
def chordalPerfectUptoCard : Claim7 := { stood := { row := chordalPerfectUptoRow, standIns := [], harness := (true, "05b8b8dc3efe0a47754d10d6f8141d9fc26f9e419f18378420853d52b290e4b1"), looks := false }, kinds := [], alts := [], laidByText := true, laidKinds := [.data, .data], laidTests := true, laidLooks := .later }
def ChordalPerfectUptoCardSaid : Prop := Claim7.holds Tryd.pinned (.plain (OpenSpec.upto chordalPerfectSpec)) chordalPerfectUptoCard
end Rows
end Go.Proofs.YtmpjanpmkmlloaaDoor
