/-
  DERIVED. GIVEN WITH THE SEED: THE CARDS: each row of YteglopdgnhjbcaaGreatDoorRows.lean that lists a variable, with what it lists TIED to the program's text (the seventh form; the later family's looks); each row that meets fmt, with fmt's text TOLD by the authors' own Lean function (tested against real Go, not proved from fmt's source: count such statements apart). THE CARD IS WHAT COUNTS. Prove the row's statement (the work); the ties are given (YteglopdgnhjbcaaGreatDoorTie.lean); close each card by the builder's one call (the guide's Derived/Test/ToyasCard.lean, 'card_holds'). Laid BY PROGRAM, IN A SANDBOX (cutbox-door.mjs). By AI agents, Wed Nov 11 2026. No macro, syntax, notation, axiom, sorry.
-/
import Derived.Test.YteglopdgnhjbcaaGreatDoorRows
import GoSem.ClaimSeven
namespace Go.Proofs.YteglopdgnhjbcaaGreatDoor
namespace Rows

/-- THE TIED CARD OF 'stratalaw07.VersionNils'. -/
def versionNilsCard : Claim7 := { stood := { row := versionNilsRow, standIns := [], harness := (true, "09e86e6659ada4259e533803297b1f3c12248452b6d79f91e516fc43b749b0fa"), looks := false }, kinds := [], alts := [], laidByText := true, laidKinds := [.data], laidTests := true, laidLooks := .later }
def VersionNilsCardSaid : Prop := Claim7.holds Tryz.pinned (.plain (OpenSpec.ofChange versionNilsSpec)) versionNilsCard

/-- THE SECOND FORM's CARD OF 'stratalaw07.VersionNils'. -/
def versionNilsUptoCard : Claim7 := { stood := { row := versionNilsUptoRow, standIns := [], harness := (true, "09e86e6659ada4259e533803297b1f3c12248452b6d79f91e516fc43b749b0fa"), looks := false }, kinds := [], alts := [], laidByText := true, laidKinds := [.data], laidTests := true, laidLooks := .later }
def VersionNilsUptoCardSaid : Prop := Claim7.holds Tryz.pinned (.plain (OpenSpec.upto versionNilsSpec)) versionNilsUptoCard
end Rows
end Go.Proofs.YteglopdgnhjbcaaGreatDoor
