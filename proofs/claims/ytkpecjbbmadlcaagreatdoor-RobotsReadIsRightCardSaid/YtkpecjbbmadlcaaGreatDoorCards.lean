/-
  DERIVED. GIVEN WITH THE SEED: THE CARDS: each row of YtkpecjbbmadlcaaGreatDoorRows.lean that lists a variable, with what it lists TIED to the program's text (the seventh form; the later family's looks); each row that meets fmt, with fmt's text TOLD by the authors' own Lean function (tested against real Go, not proved from fmt's source: count such statements apart). THE CARD IS WHAT COUNTS. Prove the row's statement (the work); the ties are given (YtkpecjbbmadlcaaGreatDoorTie.lean); close each card by the builder's one call (the guide's Derived/Test/ToyasCard.lean, 'card_holds'). Laid BY PROGRAM, IN A SANDBOX (cutbox-door.mjs). By AI agents, Wed Nov 11 2026. No macro, syntax, notation, axiom, sorry.
-/
import Derived.Test.YtkpecjbbmadlcaaGreatDoorRows
import GoSem.ClaimSeven
namespace Go.Proofs.YtkpecjbbmadlcaaGreatDoor
namespace Rows

/-- THE TIED CARD OF 'ephemeralaw4.RobotsTextsMatchSpec'. -/
def robotsTextsMatchSpecCard : Claim7 := { stood := { row := robotsTextsMatchSpecRow, standIns := [], harness := (true, "25a2221165e3ac008c5a381440b6267852a5a29c3c48b9587c72d4275035b032"), looks := true }, kinds := [], alts := [], laidByText := true, laidKinds := [.data, .data, .data, .data, .sentinel, .sentinel, .pinned], laidTests := true, laidLooks := .later }
def RobotsTextsMatchSpecCardSaid : Prop := Claim7.holds Tryz.pinned (.plain (OpenSpec.ofChange robotsTextsMatchSpecSpec)) robotsTextsMatchSpecCard

/-- THE TIED CARD OF 'ephemeralaw4.RobotsReadIsRight'. -/
def robotsReadIsRightCard : Claim7 := { stood := { row := robotsReadIsRightRow, standIns := [], harness := (true, "25a2221165e3ac008c5a381440b6267852a5a29c3c48b9587c72d4275035b032"), looks := true }, kinds := [], alts := [], laidByText := true, laidKinds := [.data, .data, .data, .data, .sentinel, .sentinel, .pinned], laidTests := true, laidLooks := .later }
def RobotsReadIsRightCardSaid : Prop := Claim7.holds Tryz.pinned (.plain (OpenSpec.ofChange robotsReadIsRightSpec)) robotsReadIsRightCard

/-- THE TIED CARD OF 'ephemeralaw4.RobotsReadsMatchSpec'. -/
def robotsReadsMatchSpecCard : Claim7 := { stood := { row := robotsReadsMatchSpecRow, standIns := [], harness := (true, "25a2221165e3ac008c5a381440b6267852a5a29c3c48b9587c72d4275035b032"), looks := true }, kinds := [], alts := [], laidByText := true, laidKinds := [.data, .data, .data, .data, .sentinel, .sentinel, .pinned], laidTests := true, laidLooks := .later }
def RobotsReadsMatchSpecCardSaid : Prop := Claim7.holds Tryz.pinned (.plain (OpenSpec.ofChange robotsReadsMatchSpecSpec)) robotsReadsMatchSpecCard

/-- THE SECOND FORM's CARD OF 'ephemeralaw4.RobotsTextsMatchSpec'. -/
def robotsTextsMatchSpecUptoCard : Claim7 := { stood := { row := robotsTextsMatchSpecUptoRow, standIns := [], harness := (true, "25a2221165e3ac008c5a381440b6267852a5a29c3c48b9587c72d4275035b032"), looks := true }, kinds := [], alts := [], laidByText := true, laidKinds := [.data, .data, .data, .data, .sentinel, .sentinel, .pinned], laidTests := true, laidLooks := .later }
def RobotsTextsMatchSpecUptoCardSaid : Prop := Claim7.holds Tryz.pinned (.plain (OpenSpec.upto robotsTextsMatchSpecSpec)) robotsTextsMatchSpecUptoCard

/-- THE SECOND FORM's CARD OF 'ephemeralaw4.RobotsReadIsRight'. -/
def robotsReadIsRightUptoCard : Claim7 := { stood := { row := robotsReadIsRightUptoRow, standIns := [], harness := (true, "25a2221165e3ac008c5a381440b6267852a5a29c3c48b9587c72d4275035b032"), looks := true }, kinds := [], alts := [], laidByText := true, laidKinds := [.data, .data, .data, .data, .sentinel, .sentinel, .pinned], laidTests := true, laidLooks := .later }
def RobotsReadIsRightUptoCardSaid : Prop := Claim7.holds Tryz.pinned (.plain (OpenSpec.upto robotsReadIsRightSpec)) robotsReadIsRightUptoCard

/-- THE SECOND FORM's CARD OF 'ephemeralaw4.RobotsReadsMatchSpec'. -/
def robotsReadsMatchSpecUptoCard : Claim7 := { stood := { row := robotsReadsMatchSpecUptoRow, standIns := [], harness := (true, "25a2221165e3ac008c5a381440b6267852a5a29c3c48b9587c72d4275035b032"), looks := true }, kinds := [], alts := [], laidByText := true, laidKinds := [.data, .data, .data, .data, .sentinel, .sentinel, .pinned], laidTests := true, laidLooks := .later }
def RobotsReadsMatchSpecUptoCardSaid : Prop := Claim7.holds Tryz.pinned (.plain (OpenSpec.upto robotsReadsMatchSpecSpec)) robotsReadsMatchSpecUptoCard
end Rows
end Go.Proofs.YtkpecjbbmadlcaaGreatDoor
