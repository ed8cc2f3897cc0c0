/-
  DERIVED. GIVEN WITH THE SEED: THE CARDS: each row of YthcimhogoiklfaaGreatDoorRows.lean that lists a variable, with what it lists TIED to the program's text (the seventh form; the later family's looks); each row that meets fmt, with fmt's text TOLD by the authors' own Lean function (tested against real Go, not proved from fmt's source: count such statements apart). THE CARD IS WHAT COUNTS. Prove the row's statement (the work); the ties are given (YthcimhogoiklfaaGreatDoorTie.lean); close each card by the builder's one call (the guide's Derived/Test/ToyasCard.lean, 'card_holds'). Laid BY PROGRAM, IN A SANDBOX (cutbox-door.mjs). By AI agents, Wed Nov 11 2026. No macro, syntax, notation, axiom, sorry.
-/
import Derived.Test.YthcimhogoiklfaaGreatDoorRows
import GoSem.ClaimSeven
namespace Go.Proofs.YthcimhogoiklfaaGreatDoor
namespace Rows

/-- THE TIED CARD OF 'ephemeralaw2.MessageCookiesSentMatchSpec'. -/
def messageCookiesSentMatchSpecCard : Claim7 := { stood := { row := messageCookiesSentMatchSpecRow, standIns := [], harness := (true, "05a87f85c0f80c49bc033f823ac36206e45a20d856f8b15b73cea7db878d385d"), looks := true }, kinds := [], alts := [], laidByText := true, laidKinds := [.data, .data, .data, .data, .sentinel, .sentinel, .pinned], laidTests := true, laidLooks := .later }
def MessageCookiesSentMatchSpecCardSaid : Prop := Claim7.holds Tryz.pinned (.plain (OpenSpec.ofChange messageCookiesSentMatchSpecSpec)) messageCookiesSentMatchSpecCard

/-- THE TIED CARD OF 'ephemeralaw2.MessageKeptIsSent'. -/
def messageKeptIsSentCard : Claim7 := { stood := { row := messageKeptIsSentRow, standIns := [], harness := (true, "05a87f85c0f80c49bc033f823ac36206e45a20d856f8b15b73cea7db878d385d"), looks := true }, kinds := [], alts := [], laidByText := true, laidKinds := [.data, .data, .data, .data, .sentinel, .sentinel, .pinned], laidTests := true, laidLooks := .later }
def MessageKeptIsSentCardSaid : Prop := Claim7.holds Tryz.pinned (.plain (OpenSpec.ofChange messageKeptIsSentSpec)) messageKeptIsSentCard

/-- THE TIED CARD OF 'ephemeralaw4.RobotsReadIsRight'. -/
def robotsReadIsRightCard : Claim7 := { stood := { row := robotsReadIsRightRow, standIns := [], harness := (true, "05a87f85c0f80c49bc033f823ac36206e45a20d856f8b15b73cea7db878d385d"), looks := true }, kinds := [], alts := [], laidByText := true, laidKinds := [.data, .data, .data, .data, .sentinel, .sentinel, .pinned], laidTests := true, laidLooks := .later }
def RobotsReadIsRightCardSaid : Prop := Claim7.holds Tryz.pinned (.plain (OpenSpec.ofChange robotsReadIsRightSpec)) robotsReadIsRightCard

/-- THE TIED CARD OF 'ephemeralaw4.RobotsReadsMatchSpec'. -/
def robotsReadsMatchSpecCard : Claim7 := { stood := { row := robotsReadsMatchSpecRow, standIns := [], harness := (true, "05a87f85c0f80c49bc033f823ac36206e45a20d856f8b15b73cea7db878d385d"), looks := true }, kinds := [], alts := [], laidByText := true, laidKinds := [.data, .data, .data, .data, .sentinel, .sentinel, .pinned], laidTests := true, laidLooks := .later }
def RobotsReadsMatchSpecCardSaid : Prop := Claim7.holds Tryz.pinned (.plain (OpenSpec.ofChange robotsReadsMatchSpecSpec)) robotsReadsMatchSpecCard

/-- THE TIED CARD OF 'ephemeralaw4.RobotsTextsMatchSpec'. -/
def robotsTextsMatchSpecCard : Claim7 := { stood := { row := robotsTextsMatchSpecRow, standIns := [], harness := (true, "05a87f85c0f80c49bc033f823ac36206e45a20d856f8b15b73cea7db878d385d"), looks := true }, kinds := [], alts := [], laidByText := true, laidKinds := [.data, .data, .data, .data, .sentinel, .sentinel, .pinned], laidTests := true, laidLooks := .later }
def RobotsTextsMatchSpecCardSaid : Prop := Claim7.holds Tryz.pinned (.plain (OpenSpec.ofChange robotsTextsMatchSpecSpec)) robotsTextsMatchSpecCard

/-- THE SECOND FORM's CARD OF 'ephemeralaw2.MessageCookiesSentMatchSpec'. -/
def messageCookiesSentMatchSpecUptoCard : Claim7 := { stood := { row := messageCookiesSentMatchSpecUptoRow, standIns := [], harness := (true, "05a87f85c0f80c49bc033f823ac36206e45a20d856f8b15b73cea7db878d385d"), looks := true }, kinds := [], alts := [], laidByText := true, laidKinds := [.data, .data, .data, .data, .sentinel, .sentinel, .pinned], laidTests := true, laidLooks := .later }
def MessageCookiesSentMatchSpecUptoCardSaid : Prop := Claim7.holds Tryz.pinned (.plain (OpenSpec.upto messageCookiesSentMatchSpecSpec)) messageCookiesSentMatchSpecUptoCard

/-- THE SECOND FORM's CARD OF 'ephemeralaw2.MessageKeptIsSent'. -/
def messageKeptIsSentUptoCard : Claim7 := { stood := { row := messageKeptIsSentUptoRow, standIns := [], harness := (true, "05a87f85c0f80c49bc033f823ac36206e45a20d856f8b15b73cea7db878d385d"), looks := true }, kinds := [], alts := [], laidByText := true, laidKinds := [.data, .data, .data, .data, .sentinel, .sentinel, .pinned], laidTests := true, laidLooks := .later }
def MessageKeptIsSentUptoCardSaid : Prop := Claim7.holds Tryz.pinned (.plain (OpenSpec.upto messageKeptIsSentSpec)) messageKeptIsSentUptoCard

/-- THE SECOND FORM's CARD OF 'ephemeralaw4.RobotsReadIsRight'. -/
def robotsReadIsRightUptoCard : Claim7 := { stood := { row := robotsReadIsRightUptoRow, standIns := [], harness := (true, "05a87f85c0f80c49bc033f823ac36206e45a20d856f8b15b73cea7db878d385d"), looks := true }, kinds := [], alts := [], laidByText := true, laidKinds := [.data, .data, .data, .data, .sentinel, .sentinel, .pinned], laidTests := true, laidLooks := .later }
def RobotsReadIsRightUptoCardSaid : Prop := Claim7.holds Tryz.pinned (.plain (OpenSpec.upto robotsReadIsRightSpec)) robotsReadIsRightUptoCard

/-- THE SECOND FORM's CARD OF 'ephemeralaw4.RobotsReadsMatchSpec'. -/
def robotsReadsMatchSpecUptoCard : Claim7 := { stood := { row := robotsReadsMatchSpecUptoRow, standIns := [], harness := (true, "05a87f85c0f80c49bc033f823ac36206e45a20d856f8b15b73cea7db878d385d"), looks := true }, kinds := [], alts := [], laidByText := true, laidKinds := [.data, .data, .data, .data, .sentinel, .sentinel, .pinned], laidTests := true, laidLooks := .later }
def RobotsReadsMatchSpecUptoCardSaid : Prop := Claim7.holds Tryz.pinned (.plain (OpenSpec.upto robotsReadsMatchSpecSpec)) robotsReadsMatchSpecUptoCard

/-- THE SECOND FORM's CARD OF 'ephemeralaw4.RobotsTextsMatchSpec'. -/
def robotsTextsMatchSpecUptoCard : Claim7 := { stood := { row := robotsTextsMatchSpecUptoRow, standIns := [], harness := (true, "05a87f85c0f80c49bc033f823ac36206e45a20d856f8b15b73cea7db878d385d"), looks := true }, kinds := [], alts := [], laidByText := true, laidKinds := [.data, .data, .data, .data, .sentinel, .sentinel, .pinned], laidTests := true, laidLooks := .later }
def RobotsTextsMatchSpecUptoCardSaid : Prop := Claim7.holds Tryz.pinned (.plain (OpenSpec.upto robotsTextsMatchSpecSpec)) robotsTextsMatchSpecUptoCard
end Rows
end Go.Proofs.YthcimhogoiklfaaGreatDoor
