/-
  DERIVED. GIVEN WITH THE SEED: THE CARDS: each row of YtoahlpjghbhbaaaGreatDoorRows.lean that lists a variable, with what it lists TIED to the program's text (the seventh form; the later family's looks); each row that meets fmt, with fmt's text TOLD by the authors' own Lean function (tested against real Go, not proved from fmt's source: count such statements apart). THE CARD IS WHAT COUNTS. Prove the row's statement (the work); the ties are given (YtoahlpjghbhbaaaGreatDoorTie.lean); close each card by the builder's one call (the guide's Derived/Test/ToyasCard.lean, 'card_holds'). Laid BY PROGRAM, IN A SANDBOX (cutbox-door.mjs). By AI agents, Wed Nov 11 2026. No macro, syntax, notation, axiom, sorry.
-/
import Derived.Test.YtoahlpjghbhbaaaGreatDoorRows
import GoSem.ClaimSeven
namespace Go.Proofs.YtoahlpjghbhbaaaGreatDoor
namespace Rows

/-- THE TIED CARD OF 'ephemeralaw4.RobotsMapReadsMatchSpec'. -/
def robotsMapReadsMatchSpecCard : Claim7 := { stood := { row := robotsMapReadsMatchSpecRow, standIns := [], harness := (true, "5d7e6df1a22ee70d20b789d0ef202d5ee7236a88630a90204538b0c0dbdc35ef"), looks := true }, kinds := [], alts := [], laidByText := true, laidKinds := [.data, .data, .data, .data, .sentinel, .sentinel, .pinned], laidTests := true, laidLooks := .later }
def RobotsMapReadsMatchSpecCardSaid : Prop := Claim7.holds Tryz.pinned (.plain (OpenSpec.ofChange robotsMapReadsMatchSpecSpec)) robotsMapReadsMatchSpecCard

/-- THE TIED CARD OF 'ephemeralaw4.RobotsMapsMatchSpec'. -/
def robotsMapsMatchSpecCard : Claim7 := { stood := { row := robotsMapsMatchSpecRow, standIns := [], harness := (true, "5d7e6df1a22ee70d20b789d0ef202d5ee7236a88630a90204538b0c0dbdc35ef"), looks := true }, kinds := [], alts := [], laidByText := true, laidKinds := [.data, .data, .data, .data, .sentinel, .sentinel, .pinned], laidTests := true, laidLooks := .later }
def RobotsMapsMatchSpecCardSaid : Prop := Claim7.holds Tryz.pinned (.plain (OpenSpec.ofChange robotsMapsMatchSpecSpec)) robotsMapsMatchSpecCard

/-- THE SECOND FORM's CARD OF 'ephemeralaw4.RobotsMapReadsMatchSpec'. -/
def robotsMapReadsMatchSpecUptoCard : Claim7 := { stood := { row := robotsMapReadsMatchSpecUptoRow, standIns := [], harness := (true, "5d7e6df1a22ee70d20b789d0ef202d5ee7236a88630a90204538b0c0dbdc35ef"), looks := true }, kinds := [], alts := [], laidByText := true, laidKinds := [.data, .data, .data, .data, .sentinel, .sentinel, .pinned], laidTests := true, laidLooks := .later }
def RobotsMapReadsMatchSpecUptoCardSaid : Prop := Claim7.holds Tryz.pinned (.plain (OpenSpec.upto robotsMapReadsMatchSpecSpec)) robotsMapReadsMatchSpecUptoCard

/-- THE SECOND FORM's CARD OF 'ephemeralaw4.RobotsMapsMatchSpec'. -/
def robotsMapsMatchSpecUptoCard : Claim7 := { stood := { row := robotsMapsMatchSpecUptoRow, standIns := [], harness := (true, "5d7e6df1a22ee70d20b789d0ef202d5ee7236a88630a90204538b0c0dbdc35ef"), looks := true }, kinds := [], alts := [], laidByText := true, laidKinds := [.data, .data, .data, .data, .sentinel, .sentinel, .pinned], laidTests := true, laidLooks := .later }
def RobotsMapsMatchSpecUptoCardSaid : Prop := Claim7.holds Tryz.pinned (.plain (OpenSpec.upto robotsMapsMatchSpecSpec)) robotsMapsMatchSpecUptoCard
end Rows
end Go.Proofs.YtoahlpjghbhbaaaGreatDoor
