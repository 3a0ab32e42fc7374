/-
  DERIVED. GIVEN WITH THE SEED: THE CARDS: each row of YtjcmcblcaakbaaaGreatDoorRows.lean that lists a variable, with what it lists TIED to the program's text (the seventh form; the later family's looks); each row that meets fmt, with fmt's text TOLD by the authors' own Lean function (tested against real Go, not proved from fmt's source: count such statements apart). THE CARD IS WHAT COUNTS. Prove the row's statement (the work); the ties are given (YtjcmcblcaakbaaaGreatDoorTie.lean); close each card by the builder's one call (the guide's Derived/Test/ToyasCard.lean, 'card_holds'). Laid BY PROGRAM, IN A SANDBOX (cutbox-door.mjs). By AI agents, Wed Nov 11 2026. No macro, syntax, notation, axiom, sorry.
-/
import Derived.Test.YtjcmcblcaakbaaaGreatDoorRows
import GoSem.ClaimSeven
namespace Go.Proofs.YtjcmcblcaakbaaaGreatDoor
namespace Rows

/-- THE TIED CARD OF 'regletlaw13.GapsNames'. -/
def gapsNamesCard : Claim7 := { stood := { row := gapsNamesRow, standIns := [], harness := (true, "fd42c5bd62039b8a95f0ad07fab1e88819a69a26ca923f96c0762102b0d3e7a3"), looks := true }, kinds := [], alts := [], laidByText := true, laidKinds := [.data, .pinned], laidTests := true, laidLooks := .later }
def GapsNamesCardSaid : Prop := Claim7.holds Tryz.pinned (.plain (OpenSpec.ofChange gapsNamesSpec)) gapsNamesCard

/-- THE SECOND FORM's CARD OF 'regletlaw13.GapsNames'. -/
def gapsNamesUptoCard : Claim7 := { stood := { row := gapsNamesUptoRow, standIns := [], harness := (true, "fd42c5bd62039b8a95f0ad07fab1e88819a69a26ca923f96c0762102b0d3e7a3"), looks := true }, kinds := [], alts := [], laidByText := true, laidKinds := [.data, .pinned], laidTests := true, laidLooks := .later }
def GapsNamesUptoCardSaid : Prop := Claim7.holds Tryz.pinned (.plain (OpenSpec.upto gapsNamesSpec)) gapsNamesUptoCard
end Rows
end Go.Proofs.YtjcmcblcaakbaaaGreatDoor
