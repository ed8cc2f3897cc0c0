/-
  DERIVED. GIVEN WITH THE SEED: THE CARDS: each row of YtpamahgbkmcpoaaDoorRows.lean that lists a variable, with what it lists TIED to the program's text (the seventh form; the later family's looks); each row that meets fmt, with fmt's text TOLD by the authors' own Lean function (tested against real Go, not proved from fmt's source: count such statements apart). THE CARD IS WHAT COUNTS. Prove the row's statement (the work); the ties are given (YtpamahgbkmcpoaaDoorTie.lean); close each card by the builder's one call (the guide's Derived/Test/ToyasCard.lean, 'card_holds'). Laid BY PROGRAM, IN A SANDBOX (cutbox-door.mjs). By AI agents, Wed Nov 11 2026. No macro, syntax, notation, axiom, sorry.
-/
import Derived.Test.YtpamahgbkmcpoaaDoorRows
import GoSem.ClaimSeven
namespace Go.Proofs.YtpamahgbkmcpoaaDoor
namespace Rows

/-- THE TIED CARD OF 'ephemeralaw2.MessageRenewedMatchSpec'. -/
def messageRenewedMatchSpecCard : Claim7 := { stood := { row := messageRenewedMatchSpecRow, standIns := [], harness := (true, "281d06e7fdedc8c0490dbdc8c4217b203c4edd244a28a5baa9fd4e6bd7961d15"), looks := true }, kinds := [], alts := [], laidByText := true, laidKinds := [.data, .data, .data, .data, .pinned], laidTests := true, laidLooks := .later }
def MessageRenewedMatchSpecCardSaid : Prop := Claim7.holds Tryd.pinned (.plain (OpenSpec.ofChange messageRenewedMatchSpecSpec)) messageRenewedMatchSpecCard

/-- THE TIED CARD OF 'ephemeralaw2.MessageCookiesMatchSpec'. -/
def messageCookiesMatchSpecCard : Claim7 := { stood := { row := messageCookiesMatchSpecRow, standIns := [], harness := (true, "281d06e7fdedc8c0490dbdc8c4217b203c4edd244a28a5baa9fd4e6bd7961d15"), looks := true }, kinds := [], alts := [], laidByText := true, laidKinds := [.data, .data, .data, .data, .pinned], laidTests := true, laidLooks := .later }
def MessageCookiesMatchSpecCardSaid : Prop := Claim7.holds Tryd.pinned (.plain (OpenSpec.ofChange messageCookiesMatchSpecSpec)) messageCookiesMatchSpecCard

/-- THE TIED CARD OF 'ephemeralaw2.MessageHeadsMatchSpec'. -/
def messageHeadsMatchSpecCard : Claim7 := { stood := { row := messageHeadsMatchSpecRow, standIns := [], harness := (true, "281d06e7fdedc8c0490dbdc8c4217b203c4edd244a28a5baa9fd4e6bd7961d15"), looks := true }, kinds := [], alts := [], laidByText := true, laidKinds := [.data, .data, .data, .data, .pinned], laidTests := true, laidLooks := .later }
def MessageHeadsMatchSpecCardSaid : Prop := Claim7.holds Tryd.pinned (.plain (OpenSpec.ofChange messageHeadsMatchSpecSpec)) messageHeadsMatchSpecCard

/-- THE TIED CARD OF 'ephemeralaw2.MessageDatesMatchSpec'. -/
def messageDatesMatchSpecCard : Claim7 := { stood := { row := messageDatesMatchSpecRow, standIns := [], harness := (true, "281d06e7fdedc8c0490dbdc8c4217b203c4edd244a28a5baa9fd4e6bd7961d15"), looks := true }, kinds := [], alts := [], laidByText := true, laidKinds := [.data, .data, .data, .data, .sentinel, .sentinel, .pinned], laidTests := true, laidLooks := .later }
def MessageDatesMatchSpecCardSaid : Prop := Claim7.holds Tryd.pinned (.plain (OpenSpec.ofChange messageDatesMatchSpecSpec)) messageDatesMatchSpecCard

/-- THE TIED CARD OF 'ephemeralaw2.MessageRenewedKeeps'. -/
def messageRenewedKeepsCard : Claim7 := { stood := { row := messageRenewedKeepsRow, standIns := [], harness := (true, "281d06e7fdedc8c0490dbdc8c4217b203c4edd244a28a5baa9fd4e6bd7961d15"), looks := true }, kinds := [], alts := [], laidByText := true, laidKinds := [.data, .data, .data, .data, .pinned, .pinned], laidTests := true, laidLooks := .later }
def MessageRenewedKeepsCardSaid : Prop := Claim7.holds Tryd.pinned (.plain (OpenSpec.ofChange messageRenewedKeepsSpec)) messageRenewedKeepsCard

/-- THE TIED CARD OF 'ephemeralaw2.MessageRequestsMatchSpec'. -/
def messageRequestsMatchSpecCard : Claim7 := { stood := { row := messageRequestsMatchSpecRow, standIns := [], harness := (true, "281d06e7fdedc8c0490dbdc8c4217b203c4edd244a28a5baa9fd4e6bd7961d15"), looks := true }, kinds := [], alts := [], laidByText := true, laidKinds := [.data, .data, .data, .data, .sentinel, .sentinel, .pinned], laidTests := true, laidLooks := .later }
def MessageRequestsMatchSpecCardSaid : Prop := Claim7.holds Tryd.pinned (.plain (OpenSpec.ofChange messageRequestsMatchSpecSpec)) messageRequestsMatchSpecCard

/-- THE SECOND FORM's CARD OF 'ephemeralaw2.MessageRenewedMatchSpec'. -/
def messageRenewedMatchSpecUptoCard : Claim7 := { stood := { row := messageRenewedMatchSpecUptoRow, standIns := [], harness := (true, "281d06e7fdedc8c0490dbdc8c4217b203c4edd244a28a5baa9fd4e6bd7961d15"), looks := true }, kinds := [], alts := [], laidByText := true, laidKinds := [.data, .data, .data, .data, .pinned], laidTests := true, laidLooks := .later }
def MessageRenewedMatchSpecUptoCardSaid : Prop := Claim7.holds Tryd.pinned (.plain (OpenSpec.upto messageRenewedMatchSpecSpec)) messageRenewedMatchSpecUptoCard

/-- THE SECOND FORM's CARD OF 'ephemeralaw2.MessageCookiesMatchSpec'. -/
def messageCookiesMatchSpecUptoCard : Claim7 := { stood := { row := messageCookiesMatchSpecUptoRow, standIns := [], harness := (true, "281d06e7fdedc8c0490dbdc8c4217b203c4edd244a28a5baa9fd4e6bd7961d15"), looks := true }, kinds := [], alts := [], laidByText := true, laidKinds := [.data, .data, .data, .data, .pinned], laidTests := true, laidLooks := .later }
def MessageCookiesMatchSpecUptoCardSaid : Prop := Claim7.holds Tryd.pinned (.plain (OpenSpec.upto messageCookiesMatchSpecSpec)) messageCookiesMatchSpecUptoCard

/-- THE SECOND FORM's CARD OF 'ephemeralaw2.MessageHeadsMatchSpec'. -/
def messageHeadsMatchSpecUptoCard : Claim7 := { stood := { row := messageHeadsMatchSpecUptoRow, standIns := [], harness := (true, "281d06e7fdedc8c0490dbdc8c4217b203c4edd244a28a5baa9fd4e6bd7961d15"), looks := true }, kinds := [], alts := [], laidByText := true, laidKinds := [.data, .data, .data, .data, .pinned], laidTests := true, laidLooks := .later }
def MessageHeadsMatchSpecUptoCardSaid : Prop := Claim7.holds Tryd.pinned (.plain (OpenSpec.upto messageHeadsMatchSpecSpec)) messageHeadsMatchSpecUptoCard

/-- THE SECOND FORM's CARD OF 'ephemeralaw2.MessageDatesMatchSpec'. -/
def messageDatesMatchSpecUptoCard : Claim7 := { stood := { row := messageDatesMatchSpecUptoRow, standIns := [], harness := (true, "281d06e7fdedc8c0490dbdc8c4217b203c4edd244a28a5baa9fd4e6bd7961d15"), looks := true }, kinds := [], alts := [], laidByText := true, laidKinds := [.data, .data, .data, .data, .sentinel, .sentinel, .pinned], laidTests := true, laidLooks := .later }
def MessageDatesMatchSpecUptoCardSaid : Prop := Claim7.holds Tryd.pinned (.plain (OpenSpec.upto messageDatesMatchSpecSpec)) messageDatesMatchSpecUptoCard

/-- THE SECOND FORM's CARD OF 'ephemeralaw2.MessageRenewedKeeps'. -/
def messageRenewedKeepsUptoCard : Claim7 := { stood := { row := messageRenewedKeepsUptoRow, standIns := [], harness := (true, "281d06e7fdedc8c0490dbdc8c4217b203c4edd244a28a5baa9fd4e6bd7961d15"), looks := true }, kinds := [], alts := [], laidByText := true, laidKinds := [.data, .data, .data, .data, .pinned, .pinned], laidTests := true, laidLooks := .later }
def MessageRenewedKeepsUptoCardSaid : Prop := Claim7.holds Tryd.pinned (.plain (OpenSpec.upto messageRenewedKeepsSpec)) messageRenewedKeepsUptoCard

/-- THE SECOND FORM's CARD OF 'ephemeralaw2.MessageRequestsMatchSpec'. -/
def messageRequestsMatchSpecUptoCard : Claim7 := { stood := { row := messageRequestsMatchSpecUptoRow, standIns := [], harness := (true, "281d06e7fdedc8c0490dbdc8c4217b203c4edd244a28a5baa9fd4e6bd7961d15"), looks := true }, kinds := [], alts := [], laidByText := true, laidKinds := [.data, .data, .data, .data, .sentinel, .sentinel, .pinned], laidTests := true, laidLooks := .later }
def MessageRequestsMatchSpecUptoCardSaid : Prop := Claim7.holds Tryd.pinned (.plain (OpenSpec.upto messageRequestsMatchSpecSpec)) messageRequestsMatchSpecUptoCard
end Rows
end Go.Proofs.YtpamahgbkmcpoaaDoor
