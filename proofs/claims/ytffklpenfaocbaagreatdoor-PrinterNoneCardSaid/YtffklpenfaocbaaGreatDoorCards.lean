/-
  DERIVED. GIVEN WITH THE SEED: THE CARDS: each row of YtffklpenfaocbaaGreatDoorRows.lean that lists a variable, with what it lists TIED to the program's text (the seventh form; the later family's looks); each row that meets fmt, with fmt's text TOLD by the authors' own Lean function (tested against real Go, not proved from fmt's source: count such statements apart). THE CARD IS WHAT COUNTS. Prove the row's statement (the work); the ties are given (YtffklpenfaocbaaGreatDoorTie.lean); close each card by the builder's one call (the guide's Derived/Test/ToyasCard.lean, 'card_holds'). Laid BY PROGRAM, IN A SANDBOX (cutbox-door.mjs). By AI agents, Wed Nov 11 2026. No macro, syntax, notation, axiom, sorry.
-/
import Derived.Test.YtffklpenfaocbaaGreatDoorRows
import GoSem.ClaimSeven
namespace Go.Proofs.YtffklpenfaocbaaGreatDoor
namespace Rows

/-- THE TIED CARD OF 'blindfoldlaw38.PrinterNone'. -/
def printerNoneCard : Claim7 := { stood := { row := printerNoneRow, standIns := [], harness := (true, "c5049ea2a887f9c8a4a378d917e77d67e4bf4c1a3fb200300a9b05c8036f5701"), looks := true }, kinds := [], alts := [], laidByText := true, laidKinds := [.handle], laidTests := true, laidLooks := .later }
def PrinterNoneCardSaid : Prop := Claim7.holds Tryz.pinned (.plain (OpenSpec.ofChange printerNoneSpec)) printerNoneCard

/-- THE SECOND FORM's CARD OF 'blindfoldlaw38.PrinterNone'. -/
def printerNoneUptoCard : Claim7 := { stood := { row := printerNoneUptoRow, standIns := [], harness := (true, "c5049ea2a887f9c8a4a378d917e77d67e4bf4c1a3fb200300a9b05c8036f5701"), looks := true }, kinds := [], alts := [], laidByText := true, laidKinds := [.handle], laidTests := true, laidLooks := .later }
def PrinterNoneUptoCardSaid : Prop := Claim7.holds Tryz.pinned (.plain (OpenSpec.upto printerNoneSpec)) printerNoneUptoCard
end Rows
end Go.Proofs.YtffklpenfaocbaaGreatDoor
