/-
  DERIVED. GIVEN WITH THE SEED: THE CARDS: each row of YtmnokccdnjokoaaGreatDoorRows.lean that lists a variable, with what it lists TIED to the program's text (the seventh form; the later family's looks); each row that meets fmt, with fmt's text TOLD by the authors' own Lean function (tested against real Go, not proved from fmt's source: count such statements apart). THE CARD IS WHAT COUNTS. Prove the row's statement (the work); the ties are given (YtmnokccdnjokoaaGreatDoorTie.lean); close each card by the builder's one call (the guide's Derived/Test/ToyasCard.lean, 'card_holds'). Laid BY PROGRAM, IN A SANDBOX (cutbox-door.mjs). By AI agents, Wed Nov 11 2026. No macro, syntax, notation, axiom, sorry.
-/
import Derived.Test.YtmnokccdnjokoaaGreatDoorRows
import GoSem.ClaimSeven
namespace Go.Proofs.YtmnokccdnjokoaaGreatDoor
namespace Rows

/-- THE TIED CARD OF 'ephemeralaw6.RecordDividedMatchSpec'. -/
def recordDividedMatchSpecCard : Claim7 := { stood := { row := recordDividedMatchSpecRow, standIns := [], harness := (true, "4fd02b9dbc9dbcd3e17c2fec04ada5ad7cdb754d43fb5ba9eeaf7cb4162a9654"), looks := true }, kinds := [], alts := [], laidByText := true, laidKinds := [.data, .data, .data, .data, .pinned], laidTests := true, laidLooks := .later }
def RecordDividedMatchSpecCardSaid : Prop := Claim7.holds Tryz.pinned (.plain (OpenSpec.ofChange recordDividedMatchSpecSpec)) recordDividedMatchSpecCard

/-- THE TIED CARD OF 'ephemeralaw6.RecordRevisitsShow'. -/
def recordRevisitsShowCard : Claim7 := { stood := { row := recordRevisitsShowRow, standIns := [], harness := (true, "4fd02b9dbc9dbcd3e17c2fec04ada5ad7cdb754d43fb5ba9eeaf7cb4162a9654"), looks := true }, kinds := [], alts := [], laidByText := true, laidKinds := [.data, .data, .data, .data, .sentinel, .sentinel, .pinned], laidTests := true, laidLooks := .later }
def RecordRevisitsShowCardSaid : Prop := Claim7.holds Tryz.pinned (.plain (OpenSpec.ofChange recordRevisitsShowSpec)) recordRevisitsShowCard

/-- THE TIED CARD OF 'ephemeralaw6.RecordRevisitsMatchSpec'. -/
def recordRevisitsMatchSpecCard : Claim7 := { stood := { row := recordRevisitsMatchSpecRow, standIns := [], harness := (true, "4fd02b9dbc9dbcd3e17c2fec04ada5ad7cdb754d43fb5ba9eeaf7cb4162a9654"), looks := true }, kinds := [], alts := [], laidByText := true, laidKinds := [.data, .data, .data, .data, .sentinel, .sentinel, .pinned], laidTests := true, laidLooks := .later }
def RecordRevisitsMatchSpecCardSaid : Prop := Claim7.holds Tryz.pinned (.plain (OpenSpec.ofChange recordRevisitsMatchSpecSpec)) recordRevisitsMatchSpecCard

/-- THE TIED CARD OF 'ephemeralaw6.RecordPiecesMatchSpec'. -/
def recordPiecesMatchSpecCard : Claim7 := { stood := { row := recordPiecesMatchSpecRow, standIns := [], harness := (true, "4fd02b9dbc9dbcd3e17c2fec04ada5ad7cdb754d43fb5ba9eeaf7cb4162a9654"), looks := true }, kinds := [], alts := [], laidByText := true, laidKinds := [.data, .data, .data, .data, .sentinel, .sentinel, .pinned], laidTests := true, laidLooks := .later }
def RecordPiecesMatchSpecCardSaid : Prop := Claim7.holds Tryz.pinned (.plain (OpenSpec.ofChange recordPiecesMatchSpecSpec)) recordPiecesMatchSpecCard

/-- THE TIED CARD OF 'ephemeralaw6.RecordPiecesJoin'. -/
def recordPiecesJoinCard : Claim7 := { stood := { row := recordPiecesJoinRow, standIns := [], harness := (true, "4fd02b9dbc9dbcd3e17c2fec04ada5ad7cdb754d43fb5ba9eeaf7cb4162a9654"), looks := true }, kinds := [], alts := [], laidByText := true, laidKinds := [.data, .data, .data, .data, .sentinel, .sentinel, .pinned], laidTests := true, laidLooks := .later }
def RecordPiecesJoinCardSaid : Prop := Claim7.holds Tryz.pinned (.plain (OpenSpec.ofChange recordPiecesJoinSpec)) recordPiecesJoinCard

/-- THE SECOND FORM's CARD OF 'ephemeralaw6.RecordDividedMatchSpec'. -/
def recordDividedMatchSpecUptoCard : Claim7 := { stood := { row := recordDividedMatchSpecUptoRow, standIns := [], harness := (true, "4fd02b9dbc9dbcd3e17c2fec04ada5ad7cdb754d43fb5ba9eeaf7cb4162a9654"), looks := true }, kinds := [], alts := [], laidByText := true, laidKinds := [.data, .data, .data, .data, .pinned], laidTests := true, laidLooks := .later }
def RecordDividedMatchSpecUptoCardSaid : Prop := Claim7.holds Tryz.pinned (.plain (OpenSpec.upto recordDividedMatchSpecSpec)) recordDividedMatchSpecUptoCard

/-- THE SECOND FORM's CARD OF 'ephemeralaw6.RecordRevisitsShow'. -/
def recordRevisitsShowUptoCard : Claim7 := { stood := { row := recordRevisitsShowUptoRow, standIns := [], harness := (true, "4fd02b9dbc9dbcd3e17c2fec04ada5ad7cdb754d43fb5ba9eeaf7cb4162a9654"), looks := true }, kinds := [], alts := [], laidByText := true, laidKinds := [.data, .data, .data, .data, .sentinel, .sentinel, .pinned], laidTests := true, laidLooks := .later }
def RecordRevisitsShowUptoCardSaid : Prop := Claim7.holds Tryz.pinned (.plain (OpenSpec.upto recordRevisitsShowSpec)) recordRevisitsShowUptoCard

/-- THE SECOND FORM's CARD OF 'ephemeralaw6.RecordRevisitsMatchSpec'. -/
def recordRevisitsMatchSpecUptoCard : Claim7 := { stood := { row := recordRevisitsMatchSpecUptoRow, standIns := [], harness := (true, "4fd02b9dbc9dbcd3e17c2fec04ada5ad7cdb754d43fb5ba9eeaf7cb4162a9654"), looks := true }, kinds := [], alts := [], laidByText := true, laidKinds := [.data, .data, .data, .data, .sentinel, .sentinel, .pinned], laidTests := true, laidLooks := .later }
def RecordRevisitsMatchSpecUptoCardSaid : Prop := Claim7.holds Tryz.pinned (.plain (OpenSpec.upto recordRevisitsMatchSpecSpec)) recordRevisitsMatchSpecUptoCard

/-- THE SECOND FORM's CARD OF 'ephemeralaw6.RecordPiecesMatchSpec'. -/
def recordPiecesMatchSpecUptoCard : Claim7 := { stood := { row := recordPiecesMatchSpecUptoRow, standIns := [], harness := (true, "4fd02b9dbc9dbcd3e17c2fec04ada5ad7cdb754d43fb5ba9eeaf7cb4162a9654"), looks := true }, kinds := [], alts := [], laidByText := true, laidKinds := [.data, .data, .data, .data, .sentinel, .sentinel, .pinned], laidTests := true, laidLooks := .later }
def RecordPiecesMatchSpecUptoCardSaid : Prop := Claim7.holds Tryz.pinned (.plain (OpenSpec.upto recordPiecesMatchSpecSpec)) recordPiecesMatchSpecUptoCard

/-- THE SECOND FORM's CARD OF 'ephemeralaw6.RecordPiecesJoin'. -/
def recordPiecesJoinUptoCard : Claim7 := { stood := { row := recordPiecesJoinUptoRow, standIns := [], harness := (true, "4fd02b9dbc9dbcd3e17c2fec04ada5ad7cdb754d43fb5ba9eeaf7cb4162a9654"), looks := true }, kinds := [], alts := [], laidByText := true, laidKinds := [.data, .data, .data, .data, .sentinel, .sentinel, .pinned], laidTests := true, laidLooks := .later }
def RecordPiecesJoinUptoCardSaid : Prop := Claim7.holds Tryz.pinned (.plain (OpenSpec.upto recordPiecesJoinSpec)) recordPiecesJoinUptoCard
end Rows
end Go.Proofs.YtmnokccdnjokoaaGreatDoor
