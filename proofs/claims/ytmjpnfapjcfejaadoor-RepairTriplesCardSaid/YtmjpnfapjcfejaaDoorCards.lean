/-
  DERIVED. GIVEN WITH THE SEED: THE CARDS: each row of YtmjpnfapjcfejaaDoorRows.lean that lists a variable, with what it lists TIED to the program's text (the seventh form; the later family's looks); each row that meets fmt, with fmt's text TOLD by the authors' own Lean function (tested against real Go, not proved from fmt's source: count such statements apart). THE CARD IS WHAT COUNTS. Prove the row's statement (the work); the ties are given (YtmjpnfapjcfejaaDoorTie.lean); close each card by the builder's one call (the guide's Derived/Test/ToyasCard.lean, 'card_holds'). Laid BY PROGRAM, IN A SANDBOX (cutbox-door.mjs). By AI agents, Wed Nov 11 2026. No macro, syntax, notation, axiom, sorry.
-/
import Derived.Test.YtmjpnfapjcfejaaDoorRows
import GoSem.ClaimSeven
namespace Go.Proofs.YtmjpnfapjcfejaaDoor
namespace Rows

/-- THE TIED CARD OF 'cubeblaw07.RepairRewrites'. -/
def repairRewritesCard : Claim7 := { stood := { row := repairRewritesRow, standIns := [], harness := (true, "7786b4c7998432c9a6772f1ac72ee7b8348665ccdea24732e09e2987b6769ff4"), looks := false }, kinds := [], alts := [], laidByText := true, laidKinds := [.data, .data], laidTests := true, laidLooks := .later }
def RepairRewritesCardSaid : Prop := Claim7.holds Tryd.pinned (.plain (OpenSpec.ofChange repairRewritesSpec)) repairRewritesCard

/-- THE TIED CARD OF 'cubeblaw07.RepairTriples'. -/
def repairTriplesCard : Claim7 := { stood := { row := repairTriplesRow, standIns := [], harness := (true, "7786b4c7998432c9a6772f1ac72ee7b8348665ccdea24732e09e2987b6769ff4"), looks := false }, kinds := [], alts := [], laidByText := true, laidKinds := [.data, .data], laidTests := true, laidLooks := .later }
def RepairTriplesCardSaid : Prop := Claim7.holds Tryd.pinned (.plain (OpenSpec.ofChange repairTriplesSpec)) repairTriplesCard

/-- THE TIED CARD OF 'cubeblaw07.RepairEither'. -/
def repairEitherCard : Claim7 := { stood := { row := repairEitherRow, standIns := [], harness := (true, "7786b4c7998432c9a6772f1ac72ee7b8348665ccdea24732e09e2987b6769ff4"), looks := false }, kinds := [], alts := [], laidByText := true, laidKinds := [.data, .data], laidTests := true, laidLooks := .later }
def RepairEitherCardSaid : Prop := Claim7.holds Tryd.pinned (.plain (OpenSpec.ofChange repairEitherSpec)) repairEitherCard

/-- THE SECOND FORM's CARD OF 'cubeblaw07.RepairRewrites'. -/
def repairRewritesUptoCard : Claim7 := { stood := { row := repairRewritesUptoRow, standIns := [], harness := (true, "7786b4c7998432c9a6772f1ac72ee7b8348665ccdea24732e09e2987b6769ff4"), looks := false }, kinds := [], alts := [], laidByText := true, laidKinds := [.data, .data], laidTests := true, laidLooks := .later }
def RepairRewritesUptoCardSaid : Prop := Claim7.holds Tryd.pinned (.plain (OpenSpec.upto repairRewritesSpec)) repairRewritesUptoCard

/-- THE SECOND FORM's CARD OF 'cubeblaw07.RepairTriples'. -/
def repairTriplesUptoCard : Claim7 := { stood := { row := repairTriplesUptoRow, standIns := [], harness := (true, "7786b4c7998432c9a6772f1ac72ee7b8348665ccdea24732e09e2987b6769ff4"), looks := false }, kinds := [], alts := [], laidByText := true, laidKinds := [.data, .data], laidTests := true, laidLooks := .later }
def RepairTriplesUptoCardSaid : Prop := Claim7.holds Tryd.pinned (.plain (OpenSpec.upto repairTriplesSpec)) repairTriplesUptoCard

/-- THE SECOND FORM's CARD OF 'cubeblaw07.RepairEither'. -/
def repairEitherUptoCard : Claim7 := { stood := { row := repairEitherUptoRow, standIns := [], harness := (true, "7786b4c7998432c9a6772f1ac72ee7b8348665ccdea24732e09e2987b6769ff4"), looks := false }, kinds := [], alts := [], laidByText := true, laidKinds := [.data, .data], laidTests := true, laidLooks := .later }
def RepairEitherUptoCardSaid : Prop := Claim7.holds Tryd.pinned (.plain (OpenSpec.upto repairEitherSpec)) repairEitherUptoCard
end Rows
end Go.Proofs.YtmjpnfapjcfejaaDoor
