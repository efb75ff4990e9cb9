/-
  DERIVED. GIVEN WITH THE SEED: THE CARDS: each row of YtnaodplcionlhaaGreatDoorRows.lean that lists a variable, with what it lists TIED to the program's text (the seventh form; the later family's looks); each row that meets fmt, with fmt's text TOLD by the authors' own Lean function (tested against real Go, not proved from fmt's source: count such statements apart). THE CARD IS WHAT COUNTS. Prove the row's statement (the work); the ties are given (YtnaodplcionlhaaGreatDoorTie.lean); close each card by the builder's one call (the guide's Derived/Test/ToyasCard.lean, 'card_holds'). Laid BY PROGRAM, IN A SANDBOX (cutbox-door.mjs). By AI agents, Wed Nov 11 2026. No macro, syntax, notation, axiom, sorry.
-/
import Derived.Test.YtnaodplcionlhaaGreatDoorRows
import GoSem.ClaimSeven
namespace Go.Proofs.YtnaodplcionlhaaGreatDoor
namespace Rows

/-- THE TIED CARD OF 'tinsellaw24.AttrNone'. -/
def attrNoneCard : Claim7 := { stood := { row := attrNoneRow, standIns := [], harness := (true, "a3e8b53ddcac8718a1741169a64dbc56785bcd1b43c0cc22cdf522d1f31d3af8"), looks := true }, kinds := [], alts := [], laidByText := true, laidKinds := [.data, .data, .data, .data, .data, .pinned], laidTests := true, laidLooks := .later }
def AttrNoneCardSaid : Prop := Claim7.holds Tryz.pinned (.plain (OpenSpec.ofChange attrNoneSpec)) attrNoneCard

/-- THE SECOND FORM's CARD OF 'tinsellaw24.AttrNone'. -/
def attrNoneUptoCard : Claim7 := { stood := { row := attrNoneUptoRow, standIns := [], harness := (true, "a3e8b53ddcac8718a1741169a64dbc56785bcd1b43c0cc22cdf522d1f31d3af8"), looks := true }, kinds := [], alts := [], laidByText := true, laidKinds := [.data, .data, .data, .data, .data, .pinned], laidTests := true, laidLooks := .later }
def AttrNoneUptoCardSaid : Prop := Claim7.holds Tryz.pinned (.plain (OpenSpec.upto attrNoneSpec)) attrNoneUptoCard
end Rows
end Go.Proofs.YtnaodplcionlhaaGreatDoor
