/-
  DERIVED. GIVEN WITH THE SEED: THE CARDS: each row of YtfchidckklhmpaaGreatDoorRows.lean that lists a variable, with what it lists TIED to the program's text (the seventh form; the later family's looks); each row that meets fmt, with fmt's text TOLD by the authors' own Lean function (tested against real Go, not proved from fmt's source: count such statements apart). THE CARD IS WHAT COUNTS. Prove the row's statement (the work); the ties are given (YtfchidckklhmpaaGreatDoorTie.lean); close each card by the builder's one call (the guide's Derived/Test/ToyasCard.lean, 'card_holds'). Laid BY PROGRAM, IN A SANDBOX (cutbox-door.mjs). By AI agents, Wed Nov 11 2026. No macro, syntax, notation, axiom, sorry.
-/
import Derived.Test.YtfchidckklhmpaaGreatDoorRows
import GoSem.ClaimSeven
namespace Go.Proofs.YtfchidckklhmpaaGreatDoor
namespace Rows

/-- THE TIED CARD OF 'tinsellaw23.CopyNone'. -/
def copyNoneCard : Claim7 := { stood := { row := copyNoneRow, standIns := [], harness := (true, "178d6c17997b65962f9b47b9324f88f524adf0aca774e5849d08bf45f676816f"), looks := true }, kinds := [], alts := [], laidByText := true, laidKinds := [.data, .data, .pinned], laidTests := true, laidLooks := .later }
def CopyNoneCardSaid : Prop := Claim7.holds Tryz.pinned (.plain (OpenSpec.ofChange copyNoneSpec)) copyNoneCard

/-- THE SECOND FORM's CARD OF 'tinsellaw23.CopyNone'. -/
def copyNoneUptoCard : Claim7 := { stood := { row := copyNoneUptoRow, standIns := [], harness := (true, "178d6c17997b65962f9b47b9324f88f524adf0aca774e5849d08bf45f676816f"), looks := true }, kinds := [], alts := [], laidByText := true, laidKinds := [.data, .data, .pinned], laidTests := true, laidLooks := .later }
def CopyNoneUptoCardSaid : Prop := Claim7.holds Tryz.pinned (.plain (OpenSpec.upto copyNoneSpec)) copyNoneUptoCard
end Rows
end Go.Proofs.YtfchidckklhmpaaGreatDoor
