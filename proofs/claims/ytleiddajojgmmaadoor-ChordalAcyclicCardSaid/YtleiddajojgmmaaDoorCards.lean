/-
  DERIVED. GIVEN WITH THE SEED: THE CARDS: each row of YtleiddajojgmmaaDoorRows.lean that lists a variable, with what it lists TIED to the program's text (the seventh form; the later family's looks); each row that meets fmt, with fmt's text TOLD by the authors' own Lean function (tested against real Go, not proved from fmt's source: count such statements apart). THE CARD IS WHAT COUNTS. Prove the row's statement (the work); the ties are given (YtleiddajojgmmaaDoorTie.lean); close each card by the builder's one call (the guide's Derived/Test/ToyasCard.lean, 'card_holds'). Laid BY PROGRAM, IN A SANDBOX (cutbox-door.mjs). By AI agents, Wed Nov 11 2026. No macro, syntax, notation, axiom, sorry.
-/
import Derived.Test.YtleiddajojgmmaaDoorRows
import GoSem.ClaimSeven
namespace Go.Proofs.YtleiddajojgmmaaDoor
namespace Rows

/-- THE TIED CARD OF 'cubeblaw06.ChordalQueries'. -/
def chordalQueriesCard : Claim7 := { stood := { row := chordalQueriesRow, standIns := [], harness := (true, "df37d914a1b271b801161a11c5840df0a3c1692b85c9f49ecb03df5b3ee86ae9"), looks := false }, kinds := [], alts := [], laidByText := true, laidKinds := [.data, .data], laidTests := true, laidLooks := .later }
def ChordalQueriesCardSaid : Prop := Claim7.holds Tryd.pinned (.plain (OpenSpec.ofChange chordalQueriesSpec)) chordalQueriesCard

/-- THE TIED CARD OF 'cubeblaw06.ChordalAcyclic'. -/
def chordalAcyclicCard : Claim7 := { stood := { row := chordalAcyclicRow, standIns := [], harness := (true, "df37d914a1b271b801161a11c5840df0a3c1692b85c9f49ecb03df5b3ee86ae9"), looks := false }, kinds := [], alts := [], laidByText := true, laidKinds := [.data, .data], laidTests := true, laidLooks := .later }
def ChordalAcyclicCardSaid : Prop := Claim7.holds Tryd.pinned (.plain (OpenSpec.ofChange chordalAcyclicSpec)) chordalAcyclicCard

/-- THE SECOND FORM's CARD OF 'cubeblaw06.ChordalQueries'. -/
def chordalQueriesUptoCard : Claim7 := { stood := { row := chordalQueriesUptoRow, standIns := [], harness := (true, "df37d914a1b271b801161a11c5840df0a3c1692b85c9f49ecb03df5b3ee86ae9"), looks := false }, kinds := [], alts := [], laidByText := true, laidKinds := [.data, .data], laidTests := true, laidLooks := .later }
def ChordalQueriesUptoCardSaid : Prop := Claim7.holds Tryd.pinned (.plain (OpenSpec.upto chordalQueriesSpec)) chordalQueriesUptoCard

/-- THE SECOND FORM's CARD OF 'cubeblaw06.ChordalAcyclic'. -/
def chordalAcyclicUptoCard : Claim7 := { stood := { row := chordalAcyclicUptoRow, standIns := [], harness := (true, "df37d914a1b271b801161a11c5840df0a3c1692b85c9f49ecb03df5b3ee86ae9"), looks := false }, kinds := [], alts := [], laidByText := true, laidKinds := [.data, .data], laidTests := true, laidLooks := .later }
def ChordalAcyclicUptoCardSaid : Prop := Claim7.holds Tryd.pinned (.plain (OpenSpec.upto chordalAcyclicSpec)) chordalAcyclicUptoCard
end Rows
end Go.Proofs.YtleiddajojgmmaaDoor
