/-
  DERIVED. GIVEN WITH THE SEED: THE CARDS: each row of YtgkjefmoaebfaaaGreatDoorRows.lean that lists a variable, with what it lists TIED to the program's text (the seventh form; the later family's looks); each row that meets fmt, with fmt's text TOLD by the authors' own Lean function (tested against real Go, not proved from fmt's source: count such statements apart). THE CARD IS WHAT COUNTS. Prove the row's statement (the work); the ties are given (YtgkjefmoaebfaaaGreatDoorTie.lean); close each card by the builder's one call (the guide's Derived/Test/ToyasCard.lean, 'card_holds'). Laid BY PROGRAM, IN A SANDBOX (cutbox-door.mjs). By AI agents, Wed Nov 11 2026. No macro, syntax, notation, axiom, sorry.
-/
import Derived.Test.YtgkjefmoaebfaaaGreatDoorRows
import GoSem.ClaimSeven
namespace Go.Proofs.YtgkjefmoaebfaaaGreatDoor
namespace Rows

/-- THE TIED CARD OF 'ephemeralaw2.MessageRequestsReadMatchSpec'. -/
def messageRequestsReadMatchSpecCard : Claim7 := { stood := { row := messageRequestsReadMatchSpecRow, standIns := [], harness := (true, "fcf6553ddf7611f2b3c77d81a6c8096980c078bf06d7592647e56b6d787fdc40"), looks := true }, kinds := [], alts := [], laidByText := true, laidKinds := [.data, .data, .data, .data, .sentinel, .sentinel, .pinned], laidTests := true, laidLooks := .later }
def MessageRequestsReadMatchSpecCardSaid : Prop := Claim7.holds Tryz.pinned (.plain (OpenSpec.ofChange messageRequestsReadMatchSpecSpec)) messageRequestsReadMatchSpecCard

/-- THE TIED CARD OF 'ephemeralaw2.MessageAnswersComeBack'. -/
def messageAnswersComeBackCard : Claim7 := { stood := { row := messageAnswersComeBackRow, standIns := [], harness := (true, "fcf6553ddf7611f2b3c77d81a6c8096980c078bf06d7592647e56b6d787fdc40"), looks := true }, kinds := [], alts := [], laidByText := true, laidKinds := [.data, .data, .data, .data, .sentinel, .sentinel, .pinned], laidTests := true, laidLooks := .later }
def MessageAnswersComeBackCardSaid : Prop := Claim7.holds Tryz.pinned (.plain (OpenSpec.ofChange messageAnswersComeBackSpec)) messageAnswersComeBackCard

/-- THE TIED CARD OF 'ephemeralaw2.MessageCookiesSentMatchSpec'. -/
def messageCookiesSentMatchSpecCard : Claim7 := { stood := { row := messageCookiesSentMatchSpecRow, standIns := [], harness := (true, "fcf6553ddf7611f2b3c77d81a6c8096980c078bf06d7592647e56b6d787fdc40"), looks := true }, kinds := [], alts := [], laidByText := true, laidKinds := [.data, .data, .data, .data, .sentinel, .sentinel, .pinned], laidTests := true, laidLooks := .later }
def MessageCookiesSentMatchSpecCardSaid : Prop := Claim7.holds Tryz.pinned (.plain (OpenSpec.ofChange messageCookiesSentMatchSpecSpec)) messageCookiesSentMatchSpecCard

/-- THE SECOND FORM's CARD OF 'ephemeralaw2.MessageRequestsReadMatchSpec'. -/
def messageRequestsReadMatchSpecUptoCard : Claim7 := { stood := { row := messageRequestsReadMatchSpecUptoRow, standIns := [], harness := (true, "fcf6553ddf7611f2b3c77d81a6c8096980c078bf06d7592647e56b6d787fdc40"), looks := true }, kinds := [], alts := [], laidByText := true, laidKinds := [.data, .data, .data, .data, .sentinel, .sentinel, .pinned], laidTests := true, laidLooks := .later }
def MessageRequestsReadMatchSpecUptoCardSaid : Prop := Claim7.holds Tryz.pinned (.plain (OpenSpec.upto messageRequestsReadMatchSpecSpec)) messageRequestsReadMatchSpecUptoCard

/-- THE SECOND FORM's CARD OF 'ephemeralaw2.MessageAnswersComeBack'. -/
def messageAnswersComeBackUptoCard : Claim7 := { stood := { row := messageAnswersComeBackUptoRow, standIns := [], harness := (true, "fcf6553ddf7611f2b3c77d81a6c8096980c078bf06d7592647e56b6d787fdc40"), looks := true }, kinds := [], alts := [], laidByText := true, laidKinds := [.data, .data, .data, .data, .sentinel, .sentinel, .pinned], laidTests := true, laidLooks := .later }
def MessageAnswersComeBackUptoCardSaid : Prop := Claim7.holds Tryz.pinned (.plain (OpenSpec.upto messageAnswersComeBackSpec)) messageAnswersComeBackUptoCard

/-- THE SECOND FORM's CARD OF 'ephemeralaw2.MessageCookiesSentMatchSpec'. -/
def messageCookiesSentMatchSpecUptoCard : Claim7 := { stood := { row := messageCookiesSentMatchSpecUptoRow, standIns := [], harness := (true, "fcf6553ddf7611f2b3c77d81a6c8096980c078bf06d7592647e56b6d787fdc40"), looks := true }, kinds := [], alts := [], laidByText := true, laidKinds := [.data, .data, .data, .data, .sentinel, .sentinel, .pinned], laidTests := true, laidLooks := .later }
def MessageCookiesSentMatchSpecUptoCardSaid : Prop := Claim7.holds Tryz.pinned (.plain (OpenSpec.upto messageCookiesSentMatchSpecSpec)) messageCookiesSentMatchSpecUptoCard
end Rows
end Go.Proofs.YtgkjefmoaebfaaaGreatDoor
