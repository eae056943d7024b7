/-
  DERIVED. GIVEN WITH THE SEED: THE CARDS: each row of YtooigfkjdemnlaaGreatDoorRows.lean that lists a variable, with what it lists TIED to the program's text (the seventh form; the later family's looks); each row that meets fmt, with fmt's text TOLD by the authors' own Lean function (tested against real Go, not proved from fmt's source: count such statements apart). THE CARD IS WHAT COUNTS. Prove the row's statement (the work); the ties are given (YtooigfkjdemnlaaGreatDoorTie.lean); close each card by the builder's one call (the guide's Derived/Test/ToyasCard.lean, 'card_holds'). Laid BY PROGRAM, IN A SANDBOX (cutbox-door.mjs). By AI agents, Wed Nov 11 2026. No macro, syntax, notation, axiom, sorry.
-/
import Derived.Test.YtooigfkjdemnlaaGreatDoorRows
import GoSem.ClaimSeven
namespace Go.Proofs.YtooigfkjdemnlaaGreatDoor
namespace Rows

/-- THE TIED CARD OF 'stratalaw14.AdyaLine'. -/
def adyaLineCard : Claim7 := { stood := { row := adyaLineRow, standIns := [], harness := (true, "4786a1ae390d9f9d2a8088a4b51785f1d8869c39e43064f2138ff97ad2761a83"), looks := true }, kinds := [], alts := [], laidByText := true, laidKinds := [.data], laidTests := true, laidLooks := .later }
def AdyaLineCardSaid : Prop := Claim7.holds Tryz.pinned (.plain (OpenSpec.ofChange adyaLineSpec)) adyaLineCard

/-- THE TIED CARD OF 'stratalaw14.AdyaGrades'. -/
def adyaGradesCard : Claim7 := { stood := { row := adyaGradesRow, standIns := [], harness := (true, "4786a1ae390d9f9d2a8088a4b51785f1d8869c39e43064f2138ff97ad2761a83"), looks := true }, kinds := [], alts := [], laidByText := true, laidKinds := [.data], laidTests := true, laidLooks := .later }
def AdyaGradesCardSaid : Prop := Claim7.holds Tryz.pinned (.plain (OpenSpec.ofChange adyaGradesSpec)) adyaGradesCard

/-- THE SECOND FORM's CARD OF 'stratalaw14.AdyaLine'. -/
def adyaLineUptoCard : Claim7 := { stood := { row := adyaLineUptoRow, standIns := [], harness := (true, "4786a1ae390d9f9d2a8088a4b51785f1d8869c39e43064f2138ff97ad2761a83"), looks := true }, kinds := [], alts := [], laidByText := true, laidKinds := [.data], laidTests := true, laidLooks := .later }
def AdyaLineUptoCardSaid : Prop := Claim7.holds Tryz.pinned (.plain (OpenSpec.upto adyaLineSpec)) adyaLineUptoCard

/-- THE SECOND FORM's CARD OF 'stratalaw14.AdyaGrades'. -/
def adyaGradesUptoCard : Claim7 := { stood := { row := adyaGradesUptoRow, standIns := [], harness := (true, "4786a1ae390d9f9d2a8088a4b51785f1d8869c39e43064f2138ff97ad2761a83"), looks := true }, kinds := [], alts := [], laidByText := true, laidKinds := [.data], laidTests := true, laidLooks := .later }
def AdyaGradesUptoCardSaid : Prop := Claim7.holds Tryz.pinned (.plain (OpenSpec.upto adyaGradesSpec)) adyaGradesUptoCard
end Rows
end Go.Proofs.YtooigfkjdemnlaaGreatDoor
