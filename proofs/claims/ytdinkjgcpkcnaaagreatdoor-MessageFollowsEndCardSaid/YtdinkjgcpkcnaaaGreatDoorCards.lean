/-
  DERIVED. GIVEN WITH THE SEED: THE CARDS: each row of YtdinkjgcpkcnaaaGreatDoorRows.lean that lists a variable, with what it lists TIED to the program's text (the seventh form; the later family's looks); each row that meets fmt, with fmt's text TOLD by the authors' own Lean function (tested against real Go, not proved from fmt's source: count such statements apart). THE CARD IS WHAT COUNTS. Prove the row's statement (the work); the ties are given (YtdinkjgcpkcnaaaGreatDoorTie.lean); close each card by the builder's one call (the guide's Derived/Test/ToyasCard.lean, 'card_holds'). Laid BY PROGRAM, IN A SANDBOX (cutbox-door.mjs). By AI agents, Wed Nov 11 2026. No macro, syntax, notation, axiom, sorry.
-/
import Derived.Test.YtdinkjgcpkcnaaaGreatDoorRows
import GoSem.ClaimSeven
namespace Go.Proofs.YtdinkjgcpkcnaaaGreatDoor
namespace Rows

/-- THE TIED CARD OF 'ephemeralaw2.MessageFollowsEnd'. -/
def messageFollowsEndCard : Claim7 := { stood := { row := messageFollowsEndRow, standIns := [], harness := (true, "44e187975ae5b15d8a82fc008e597a8cd563e15f6e65abc2dd73942ad0b9ed51"), looks := true }, kinds := [], alts := [], laidByText := true, laidKinds := [.data, .data, .data, .data, .pinned], laidTests := true, laidLooks := .later }
def MessageFollowsEndCardSaid : Prop := Claim7.holds Tryz.pinned (.plain (OpenSpec.ofChange messageFollowsEndSpec)) messageFollowsEndCard

/-- THE TIED CARD OF 'ephemeralaw2.MessageKeptIsSent'. -/
def messageKeptIsSentCard : Claim7 := { stood := { row := messageKeptIsSentRow, standIns := [], harness := (true, "44e187975ae5b15d8a82fc008e597a8cd563e15f6e65abc2dd73942ad0b9ed51"), looks := true }, kinds := [], alts := [], laidByText := true, laidKinds := [.data, .data, .data, .data, .sentinel, .sentinel, .pinned], laidTests := true, laidLooks := .later }
def MessageKeptIsSentCardSaid : Prop := Claim7.holds Tryz.pinned (.plain (OpenSpec.ofChange messageKeptIsSentSpec)) messageKeptIsSentCard

/-- THE SECOND FORM's CARD OF 'ephemeralaw2.MessageFollowsEnd'. -/
def messageFollowsEndUptoCard : Claim7 := { stood := { row := messageFollowsEndUptoRow, standIns := [], harness := (true, "44e187975ae5b15d8a82fc008e597a8cd563e15f6e65abc2dd73942ad0b9ed51"), looks := true }, kinds := [], alts := [], laidByText := true, laidKinds := [.data, .data, .data, .data, .pinned], laidTests := true, laidLooks := .later }
def MessageFollowsEndUptoCardSaid : Prop := Claim7.holds Tryz.pinned (.plain (OpenSpec.upto messageFollowsEndSpec)) messageFollowsEndUptoCard

/-- THE SECOND FORM's CARD OF 'ephemeralaw2.MessageKeptIsSent'. -/
def messageKeptIsSentUptoCard : Claim7 := { stood := { row := messageKeptIsSentUptoRow, standIns := [], harness := (true, "44e187975ae5b15d8a82fc008e597a8cd563e15f6e65abc2dd73942ad0b9ed51"), looks := true }, kinds := [], alts := [], laidByText := true, laidKinds := [.data, .data, .data, .data, .sentinel, .sentinel, .pinned], laidTests := true, laidLooks := .later }
def MessageKeptIsSentUptoCardSaid : Prop := Claim7.holds Tryz.pinned (.plain (OpenSpec.upto messageKeptIsSentSpec)) messageKeptIsSentUptoCard
end Rows
end Go.Proofs.YtdinkjgcpkcnaaaGreatDoor
