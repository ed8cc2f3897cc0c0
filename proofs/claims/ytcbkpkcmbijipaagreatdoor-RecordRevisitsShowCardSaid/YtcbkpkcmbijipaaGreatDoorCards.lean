/-
  DERIVED. GIVEN WITH THE SEED: THE CARDS: each row of YtcbkpkcmbijipaaGreatDoorRows.lean that lists a variable, with what it lists TIED to the program's text (the seventh form; the later family's looks); each row that meets fmt, with fmt's text TOLD by the authors' own Lean function (tested against real Go, not proved from fmt's source: count such statements apart). THE CARD IS WHAT COUNTS. Prove the row's statement (the work); the ties are given (YtcbkpkcmbijipaaGreatDoorTie.lean); close each card by the builder's one call (the guide's Derived/Test/ToyasCard.lean, 'card_holds'). Laid BY PROGRAM, IN A SANDBOX (cutbox-door.mjs). By AI agents, Wed Nov 11 2026. No macro, syntax, notation, axiom, sorry.
-/
import Derived.Test.YtcbkpkcmbijipaaGreatDoorRows
import GoSem.ClaimSeven
namespace Go.Proofs.YtcbkpkcmbijipaaGreatDoor
namespace Rows

/-- THE TIED CARD OF 'ephemeralaw6.RecordRevisitsShow'. -/
def recordRevisitsShowCard : Claim7 := { stood := { row := recordRevisitsShowRow, standIns := [], harness := (true, "b9c1eea98b14ee3e145f46e4824ace35b06d59658d26dc3a558b2f75b4ec5853"), looks := true }, kinds := [], alts := [], laidByText := true, laidKinds := [.data, .data, .data, .data, .sentinel, .sentinel, .pinned], laidTests := true, laidLooks := .later }
def RecordRevisitsShowCardSaid : Prop := Claim7.holds Tryz.pinned (.plain (OpenSpec.ofChange recordRevisitsShowSpec)) recordRevisitsShowCard

/-- THE TIED CARD OF 'ephemeralaw6.RecordRevisitsMatchSpec'. -/
def recordRevisitsMatchSpecCard : Claim7 := { stood := { row := recordRevisitsMatchSpecRow, standIns := [], harness := (true, "b9c1eea98b14ee3e145f46e4824ace35b06d59658d26dc3a558b2f75b4ec5853"), looks := true }, kinds := [], alts := [], laidByText := true, laidKinds := [.data, .data, .data, .data, .sentinel, .sentinel, .pinned], laidTests := true, laidLooks := .later }
def RecordRevisitsMatchSpecCardSaid : Prop := Claim7.holds Tryz.pinned (.plain (OpenSpec.ofChange recordRevisitsMatchSpecSpec)) recordRevisitsMatchSpecCard

/-- THE TIED CARD OF 'ephemeralaw6.RecordPiecesMatchSpec'. -/
def recordPiecesMatchSpecCard : Claim7 := { stood := { row := recordPiecesMatchSpecRow, standIns := [], harness := (true, "b9c1eea98b14ee3e145f46e4824ace35b06d59658d26dc3a558b2f75b4ec5853"), looks := true }, kinds := [], alts := [], laidByText := true, laidKinds := [.data, .data, .data, .data, .sentinel, .sentinel, .pinned], laidTests := true, laidLooks := .later }
def RecordPiecesMatchSpecCardSaid : Prop := Claim7.holds Tryz.pinned (.plain (OpenSpec.ofChange recordPiecesMatchSpecSpec)) recordPiecesMatchSpecCard

/-- THE TIED CARD OF 'ephemeralaw6.RecordPiecesJoin'. -/
def recordPiecesJoinCard : Claim7 := { stood := { row := recordPiecesJoinRow, standIns := [], harness := (true, "b9c1eea98b14ee3e145f46e4824ace35b06d59658d26dc3a558b2f75b4ec5853"), looks := true }, kinds := [], alts := [], laidByText := true, laidKinds := [.data, .data, .data, .data, .sentinel, .sentinel, .pinned], laidTests := true, laidLooks := .later }
def RecordPiecesJoinCardSaid : Prop := Claim7.holds Tryz.pinned (.plain (OpenSpec.ofChange recordPiecesJoinSpec)) recordPiecesJoinCard

/-- THE SECOND FORM's CARD OF 'ephemeralaw6.RecordRevisitsShow'. -/
def recordRevisitsShowUptoCard : Claim7 := { stood := { row := recordRevisitsShowUptoRow, standIns := [], harness := (true, "b9c1eea98b14ee3e145f46e4824ace35b06d59658d26dc3a558b2f75b4ec5853"), looks := true }, kinds := [], alts := [], laidByText := true, laidKinds := [.data, .data, .data, .data, .sentinel, .sentinel, .pinned], laidTests := true, laidLooks := .later }
def RecordRevisitsShowUptoCardSaid : Prop := Claim7.holds Tryz.pinned (.plain (OpenSpec.upto recordRevisitsShowSpec)) recordRevisitsShowUptoCard

/-- THE SECOND FORM's CARD OF 'ephemeralaw6.RecordRevisitsMatchSpec'. -/
def recordRevisitsMatchSpecUptoCard : Claim7 := { stood := { row := recordRevisitsMatchSpecUptoRow, standIns := [], harness := (true, "b9c1eea98b14ee3e145f46e4824ace35b06d59658d26dc3a558b2f75b4ec5853"), looks := true }, kinds := [], alts := [], laidByText := true, laidKinds := [.data, .data, .data, .data, .sentinel, .sentinel, .pinned], laidTests := true, laidLooks := .later }
def RecordRevisitsMatchSpecUptoCardSaid : Prop := Claim7.holds Tryz.pinned (.plain (OpenSpec.upto recordRevisitsMatchSpecSpec)) recordRevisitsMatchSpecUptoCard

/-- THE SECOND FORM's CARD OF 'ephemeralaw6.RecordPiecesMatchSpec'. -/
def recordPiecesMatchSpecUptoCard : Claim7 := { stood := { row := recordPiecesMatchSpecUptoRow, standIns := [], harness := (true, "b9c1eea98b14ee3e145f46e4824ace35b06d59658d26dc3a558b2f75b4ec5853"), looks := true }, kinds := [], alts := [], laidByText := true, laidKinds := [.data, .data, .data, .data, .sentinel, .sentinel, .pinned], laidTests := true, laidLooks := .later }
def RecordPiecesMatchSpecUptoCardSaid : Prop := Claim7.holds Tryz.pinned (.plain (OpenSpec.upto recordPiecesMatchSpecSpec)) recordPiecesMatchSpecUptoCard

/-- THE SECOND FORM's CARD OF 'ephemeralaw6.RecordPiecesJoin'. -/
def recordPiecesJoinUptoCard : Claim7 := { stood := { row := recordPiecesJoinUptoRow, standIns := [], harness := (true, "b9c1eea98b14ee3e145f46e4824ace35b06d59658d26dc3a558b2f75b4ec5853"), looks := true }, kinds := [], alts := [], laidByText := true, laidKinds := [.data, .data, .data, .data, .sentinel, .sentinel, .pinned], laidTests := true, laidLooks := .later }
def RecordPiecesJoinUptoCardSaid : Prop := Claim7.holds Tryz.pinned (.plain (OpenSpec.upto recordPiecesJoinSpec)) recordPiecesJoinUptoCard
end Rows
end Go.Proofs.YtcbkpkcmbijipaaGreatDoor
