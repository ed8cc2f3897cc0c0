/-
  DERIVED. GIVEN WITH THE SEED: THE CARDS: each row of YtfbbeehlkemgnaaDoorRows.lean that lists a variable, with what it lists TIED to the program's text (the seventh form; the later family's looks); each row that meets fmt, with fmt's text TOLD by the authors' own Lean function (tested against real Go, not proved from fmt's source: count such statements apart). THE CARD IS WHAT COUNTS. Prove the row's statement (the work); the ties are given (YtfbbeehlkemgnaaDoorTie.lean); close each card by the builder's one call (the guide's Derived/Test/ToyasCard.lean, 'card_holds'). Laid BY PROGRAM, IN A SANDBOX (cutbox-door.mjs). By AI agents, Wed Nov 11 2026. No macro, syntax, notation, axiom, sorry.
-/
import Derived.Test.YtfbbeehlkemgnaaDoorRows
import GoSem.ClaimSeven
namespace Go.Proofs.YtfbbeehlkemgnaaDoor
namespace Rows

/-- THE TIED CARD OF 'ephemeratop.TopRevisitsAreEqualBlocks'. -/
def topRevisitsAreEqualBlocksCard : Claim7 := { stood := { row := topRevisitsAreEqualBlocksRow, standIns := [], harness := (true, "9afaa48d791fccb4c3e805f1aaf8ef242a6968567f463c770d3cde9b3f73b77f"), looks := false }, kinds := [], alts := [], laidByText := true, laidKinds := [.data, .data, .data, .data, .data, .data, .pinned, .pinned], laidTests := true, laidLooks := .later }
def TopRevisitsAreEqualBlocksCardSaid : Prop := Claim7.holds Tryd.pinned (.plain (OpenSpec.ofChange topRevisitsAreEqualBlocksSpec)) topRevisitsAreEqualBlocksCard

/-- THE SECOND FORM's CARD OF 'ephemeratop.TopRevisitsAreEqualBlocks'. -/
def topRevisitsAreEqualBlocksUptoCard : Claim7 := { stood := { row := topRevisitsAreEqualBlocksUptoRow, standIns := [], harness := (true, "9afaa48d791fccb4c3e805f1aaf8ef242a6968567f463c770d3cde9b3f73b77f"), looks := false }, kinds := [], alts := [], laidByText := true, laidKinds := [.data, .data, .data, .data, .data, .data, .pinned, .pinned], laidTests := true, laidLooks := .later }
def TopRevisitsAreEqualBlocksUptoCardSaid : Prop := Claim7.holds Tryd.pinned (.plain (OpenSpec.upto topRevisitsAreEqualBlocksSpec)) topRevisitsAreEqualBlocksUptoCard
end Rows
end Go.Proofs.YtfbbeehlkemgnaaDoor
