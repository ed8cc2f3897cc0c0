/-
  DERIVED. GIVEN WITH THE SEED: THE CARDS: each row of YtpamahgbkmcpoaaGreatDoorRows.lean that lists a variable, with what it lists TIED to the program's text (the seventh form; the later family's looks); each row that meets fmt, with fmt's text TOLD by the authors' own Lean function (tested against real Go, not proved from fmt's source: count such statements apart). THE CARD IS WHAT COUNTS. Prove the row's statement (the work); the ties are given (YtpamahgbkmcpoaaGreatDoorTie.lean); close each card by the builder's one call (the guide's Derived/Test/ToyasCard.lean, 'card_holds'). Laid BY PROGRAM, IN A SANDBOX (cutbox-door.mjs). By AI agents, Wed Nov 11 2026. No macro, syntax, notation, axiom, sorry.
-/
import Derived.Test.YtpamahgbkmcpoaaGreatDoorRows
import GoSem.ClaimSeven
namespace Go.Proofs.YtpamahgbkmcpoaaGreatDoor
namespace Rows

/-- THE TIED CARD OF 'ephemeralaw2.MessageAnswersMatchSpec'. -/
def messageAnswersMatchSpecCard : Claim7 := { stood := { row := messageAnswersMatchSpecRow, standIns := [], harness := (true, "b45db29bfdfe0f57f7cf7f73017bc3cc8806e28f81a9bfbf7c2ed2e1ea28c590"), looks := true }, kinds := [], alts := [], laidByText := true, laidKinds := [.data, .data, .data, .data, .sentinel, .sentinel, .pinned], laidTests := true, laidLooks := .later }
def MessageAnswersMatchSpecCardSaid : Prop := Claim7.holds Tryz.pinned (.plain (OpenSpec.ofChange messageAnswersMatchSpecSpec)) messageAnswersMatchSpecCard

/-- THE TIED CARD OF 'ephemeralaw2.MessageRequestsComeBack'. -/
def messageRequestsComeBackCard : Claim7 := { stood := { row := messageRequestsComeBackRow, standIns := [], harness := (true, "b45db29bfdfe0f57f7cf7f73017bc3cc8806e28f81a9bfbf7c2ed2e1ea28c590"), looks := true }, kinds := [], alts := [], laidByText := true, laidKinds := [.data, .data, .data, .data, .sentinel, .sentinel, .pinned], laidTests := true, laidLooks := .later }
def MessageRequestsComeBackCardSaid : Prop := Claim7.holds Tryz.pinned (.plain (OpenSpec.ofChange messageRequestsComeBackSpec)) messageRequestsComeBackCard

/-- THE TIED CARD OF 'ephemeralaw2.MessageValidsMatchSpec'. -/
def messageValidsMatchSpecCard : Claim7 := { stood := { row := messageValidsMatchSpecRow, standIns := [], harness := (true, "b45db29bfdfe0f57f7cf7f73017bc3cc8806e28f81a9bfbf7c2ed2e1ea28c590"), looks := true }, kinds := [], alts := [], laidByText := true, laidKinds := [.data, .data, .data, .data, .sentinel, .sentinel, .pinned], laidTests := true, laidLooks := .later }
def MessageValidsMatchSpecCardSaid : Prop := Claim7.holds Tryz.pinned (.plain (OpenSpec.ofChange messageValidsMatchSpecSpec)) messageValidsMatchSpecCard

/-- THE TIED CARD OF 'ephemeralaw2.MessageRequestsReadMatchSpec'. -/
def messageRequestsReadMatchSpecCard : Claim7 := { stood := { row := messageRequestsReadMatchSpecRow, standIns := [], harness := (true, "b45db29bfdfe0f57f7cf7f73017bc3cc8806e28f81a9bfbf7c2ed2e1ea28c590"), looks := true }, kinds := [], alts := [], laidByText := true, laidKinds := [.data, .data, .data, .data, .sentinel, .sentinel, .pinned], laidTests := true, laidLooks := .later }
def MessageRequestsReadMatchSpecCardSaid : Prop := Claim7.holds Tryz.pinned (.plain (OpenSpec.ofChange messageRequestsReadMatchSpecSpec)) messageRequestsReadMatchSpecCard

/-- THE TIED CARD OF 'ephemeralaw2.MessageAnswersComeBack'. -/
def messageAnswersComeBackCard : Claim7 := { stood := { row := messageAnswersComeBackRow, standIns := [], harness := (true, "b45db29bfdfe0f57f7cf7f73017bc3cc8806e28f81a9bfbf7c2ed2e1ea28c590"), looks := true }, kinds := [], alts := [], laidByText := true, laidKinds := [.data, .data, .data, .data, .sentinel, .sentinel, .pinned], laidTests := true, laidLooks := .later }
def MessageAnswersComeBackCardSaid : Prop := Claim7.holds Tryz.pinned (.plain (OpenSpec.ofChange messageAnswersComeBackSpec)) messageAnswersComeBackCard

/-- THE TIED CARD OF 'ephemeralaw2.MessageAnswersReadMatchSpec'. -/
def messageAnswersReadMatchSpecCard : Claim7 := { stood := { row := messageAnswersReadMatchSpecRow, standIns := [], harness := (true, "b45db29bfdfe0f57f7cf7f73017bc3cc8806e28f81a9bfbf7c2ed2e1ea28c590"), looks := true }, kinds := [], alts := [], laidByText := true, laidKinds := [.data, .data, .data, .data, .sentinel, .sentinel, .pinned], laidTests := true, laidLooks := .later }
def MessageAnswersReadMatchSpecCardSaid : Prop := Claim7.holds Tryz.pinned (.plain (OpenSpec.ofChange messageAnswersReadMatchSpecSpec)) messageAnswersReadMatchSpecCard

/-- THE SECOND FORM's CARD OF 'ephemeralaw2.MessageAnswersMatchSpec'. -/
def messageAnswersMatchSpecUptoCard : Claim7 := { stood := { row := messageAnswersMatchSpecUptoRow, standIns := [], harness := (true, "b45db29bfdfe0f57f7cf7f73017bc3cc8806e28f81a9bfbf7c2ed2e1ea28c590"), looks := true }, kinds := [], alts := [], laidByText := true, laidKinds := [.data, .data, .data, .data, .sentinel, .sentinel, .pinned], laidTests := true, laidLooks := .later }
def MessageAnswersMatchSpecUptoCardSaid : Prop := Claim7.holds Tryz.pinned (.plain (OpenSpec.upto messageAnswersMatchSpecSpec)) messageAnswersMatchSpecUptoCard

/-- THE SECOND FORM's CARD OF 'ephemeralaw2.MessageRequestsComeBack'. -/
def messageRequestsComeBackUptoCard : Claim7 := { stood := { row := messageRequestsComeBackUptoRow, standIns := [], harness := (true, "b45db29bfdfe0f57f7cf7f73017bc3cc8806e28f81a9bfbf7c2ed2e1ea28c590"), looks := true }, kinds := [], alts := [], laidByText := true, laidKinds := [.data, .data, .data, .data, .sentinel, .sentinel, .pinned], laidTests := true, laidLooks := .later }
def MessageRequestsComeBackUptoCardSaid : Prop := Claim7.holds Tryz.pinned (.plain (OpenSpec.upto messageRequestsComeBackSpec)) messageRequestsComeBackUptoCard

/-- THE SECOND FORM's CARD OF 'ephemeralaw2.MessageValidsMatchSpec'. -/
def messageValidsMatchSpecUptoCard : Claim7 := { stood := { row := messageValidsMatchSpecUptoRow, standIns := [], harness := (true, "b45db29bfdfe0f57f7cf7f73017bc3cc8806e28f81a9bfbf7c2ed2e1ea28c590"), looks := true }, kinds := [], alts := [], laidByText := true, laidKinds := [.data, .data, .data, .data, .sentinel, .sentinel, .pinned], laidTests := true, laidLooks := .later }
def MessageValidsMatchSpecUptoCardSaid : Prop := Claim7.holds Tryz.pinned (.plain (OpenSpec.upto messageValidsMatchSpecSpec)) messageValidsMatchSpecUptoCard

/-- THE SECOND FORM's CARD OF 'ephemeralaw2.MessageRequestsReadMatchSpec'. -/
def messageRequestsReadMatchSpecUptoCard : Claim7 := { stood := { row := messageRequestsReadMatchSpecUptoRow, standIns := [], harness := (true, "b45db29bfdfe0f57f7cf7f73017bc3cc8806e28f81a9bfbf7c2ed2e1ea28c590"), looks := true }, kinds := [], alts := [], laidByText := true, laidKinds := [.data, .data, .data, .data, .sentinel, .sentinel, .pinned], laidTests := true, laidLooks := .later }
def MessageRequestsReadMatchSpecUptoCardSaid : Prop := Claim7.holds Tryz.pinned (.plain (OpenSpec.upto messageRequestsReadMatchSpecSpec)) messageRequestsReadMatchSpecUptoCard

/-- THE SECOND FORM's CARD OF 'ephemeralaw2.MessageAnswersComeBack'. -/
def messageAnswersComeBackUptoCard : Claim7 := { stood := { row := messageAnswersComeBackUptoRow, standIns := [], harness := (true, "b45db29bfdfe0f57f7cf7f73017bc3cc8806e28f81a9bfbf7c2ed2e1ea28c590"), looks := true }, kinds := [], alts := [], laidByText := true, laidKinds := [.data, .data, .data, .data, .sentinel, .sentinel, .pinned], laidTests := true, laidLooks := .later }
def MessageAnswersComeBackUptoCardSaid : Prop := Claim7.holds Tryz.pinned (.plain (OpenSpec.upto messageAnswersComeBackSpec)) messageAnswersComeBackUptoCard

/-- THE SECOND FORM's CARD OF 'ephemeralaw2.MessageAnswersReadMatchSpec'. -/
def messageAnswersReadMatchSpecUptoCard : Claim7 := { stood := { row := messageAnswersReadMatchSpecUptoRow, standIns := [], harness := (true, "b45db29bfdfe0f57f7cf7f73017bc3cc8806e28f81a9bfbf7c2ed2e1ea28c590"), looks := true }, kinds := [], alts := [], laidByText := true, laidKinds := [.data, .data, .data, .data, .sentinel, .sentinel, .pinned], laidTests := true, laidLooks := .later }
def MessageAnswersReadMatchSpecUptoCardSaid : Prop := Claim7.holds Tryz.pinned (.plain (OpenSpec.upto messageAnswersReadMatchSpecSpec)) messageAnswersReadMatchSpecUptoCard
end Rows
end Go.Proofs.YtpamahgbkmcpoaaGreatDoor
