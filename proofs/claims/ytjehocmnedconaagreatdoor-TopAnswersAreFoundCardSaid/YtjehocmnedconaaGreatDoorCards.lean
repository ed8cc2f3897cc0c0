/-
  DERIVED. GIVEN WITH THE SEED: THE CARDS: each row of YtjehocmnedconaaGreatDoorRows.lean that lists a variable, with what it lists TIED to the program's text (the seventh form; the later family's looks); each row that meets fmt, with fmt's text TOLD by the authors' own Lean function (tested against real Go, not proved from fmt's source: count such statements apart). THE CARD IS WHAT COUNTS. Prove the row's statement (the work); the ties are given (YtjehocmnedconaaGreatDoorTie.lean); close each card by the builder's one call (the guide's Derived/Test/ToyasCard.lean, 'card_holds'). Laid BY PROGRAM, IN A SANDBOX (cutbox-door.mjs). By AI agents, Wed Nov 11 2026. No macro, syntax, notation, axiom, sorry.
-/
import Derived.Test.YtjehocmnedconaaGreatDoorRows
import GoSem.ClaimSeven
namespace Go.Proofs.YtjehocmnedconaaGreatDoor
namespace Rows

/-- THE TIED CARD OF 'ephemeratop.TopAnswersAreFound'. -/
def topAnswersAreFoundCard : Claim7 := { stood := { row := topAnswersAreFoundRow, standIns := [], harness := (true, "59a0808458ce4d122276c1065305300ea82980f7c94b19405ee7cefd43c1b555"), looks := true }, kinds := [], alts := [], laidByText := true, laidKinds := [.data, .data, .data, .data, .sentinel, .sentinel, .data, .data, .pinned, .pinned], laidTests := true, laidLooks := .later }
def TopAnswersAreFoundCardSaid : Prop := Claim7.holds Tryz.pinned (.plain (OpenSpec.ofChange topAnswersAreFoundSpec)) topAnswersAreFoundCard

/-- THE SECOND FORM's CARD OF 'ephemeratop.TopAnswersAreFound'. -/
def topAnswersAreFoundUptoCard : Claim7 := { stood := { row := topAnswersAreFoundUptoRow, standIns := [], harness := (true, "59a0808458ce4d122276c1065305300ea82980f7c94b19405ee7cefd43c1b555"), looks := true }, kinds := [], alts := [], laidByText := true, laidKinds := [.data, .data, .data, .data, .sentinel, .sentinel, .data, .data, .pinned, .pinned], laidTests := true, laidLooks := .later }
def TopAnswersAreFoundUptoCardSaid : Prop := Claim7.holds Tryz.pinned (.plain (OpenSpec.upto topAnswersAreFoundSpec)) topAnswersAreFoundUptoCard
end Rows
end Go.Proofs.YtjehocmnedconaaGreatDoor
