/-
  DERIVED. GIVEN WITH THE SEED: THE CARDS: each row of YtacpgblabfelhaaGreatDoorRows.lean that lists a variable, with what it lists TIED to the program's text (the seventh form; the later family's looks); each row that meets fmt, with fmt's text TOLD by the authors' own Lean function (tested against real Go, not proved from fmt's source: count such statements apart). THE CARD IS WHAT COUNTS. Prove the row's statement (the work); the ties are given (YtacpgblabfelhaaGreatDoorTie.lean); close each card by the builder's one call (the guide's Derived/Test/ToyasCard.lean, 'card_holds'). Laid BY PROGRAM, IN A SANDBOX (cutbox-door.mjs). By AI agents, Wed Nov 11 2026. No macro, syntax, notation, axiom, sorry.
-/
import Derived.Test.YtacpgblabfelhaaGreatDoorRows
import GoSem.ClaimSeven
namespace Go.Proofs.YtacpgblabfelhaaGreatDoor
namespace Rows

/-- THE TIED CARD OF 'ephemeralaw6.RecordDividedMatchSpec'. -/
def recordDividedMatchSpecCard : Claim7 := { stood := { row := recordDividedMatchSpecRow, standIns := [], harness := (true, "c79744028eaabeaa0347bd7f2d343b204c05b478f14f4c9b6f3082e77985f8c0"), looks := true }, kinds := [], alts := [], laidByText := true, laidKinds := [.data, .data, .data, .data, .pinned], laidTests := true, laidLooks := .later }
def RecordDividedMatchSpecCardSaid : Prop := Claim7.holds Tryz.pinned (.plain (OpenSpec.ofChange recordDividedMatchSpecSpec)) recordDividedMatchSpecCard

/-- THE TIED CARD OF 'ephemeralaw6.RecordRevisitsShow'. -/
def recordRevisitsShowCard : Claim7 := { stood := { row := recordRevisitsShowRow, standIns := [], harness := (true, "c79744028eaabeaa0347bd7f2d343b204c05b478f14f4c9b6f3082e77985f8c0"), looks := true }, kinds := [], alts := [], laidByText := true, laidKinds := [.data, .data, .data, .data, .sentinel, .sentinel, .pinned], laidTests := true, laidLooks := .later }
def RecordRevisitsShowCardSaid : Prop := Claim7.holds Tryz.pinned (.plain (OpenSpec.ofChange recordRevisitsShowSpec)) recordRevisitsShowCard

/-- THE TIED CARD OF 'ephemeralaw6.RecordRevisitsMatchSpec'. -/
def recordRevisitsMatchSpecCard : Claim7 := { stood := { row := recordRevisitsMatchSpecRow, standIns := [], harness := (true, "c79744028eaabeaa0347bd7f2d343b204c05b478f14f4c9b6f3082e77985f8c0"), looks := true }, kinds := [], alts := [], laidByText := true, laidKinds := [.data, .data, .data, .data, .sentinel, .sentinel, .pinned], laidTests := true, laidLooks := .later }
def RecordRevisitsMatchSpecCardSaid : Prop := Claim7.holds Tryz.pinned (.plain (OpenSpec.ofChange recordRevisitsMatchSpecSpec)) recordRevisitsMatchSpecCard

/-- THE TIED CARD OF 'ephemeralaw6.RecordPiecesMatchSpec'. -/
def recordPiecesMatchSpecCard : Claim7 := { stood := { row := recordPiecesMatchSpecRow, standIns := [], harness := (true, "c79744028eaabeaa0347bd7f2d343b204c05b478f14f4c9b6f3082e77985f8c0"), looks := true }, kinds := [], alts := [], laidByText := true, laidKinds := [.data, .data, .data, .data, .sentinel, .sentinel, .pinned], laidTests := true, laidLooks := .later }
def RecordPiecesMatchSpecCardSaid : Prop := Claim7.holds Tryz.pinned (.plain (OpenSpec.ofChange recordPiecesMatchSpecSpec)) recordPiecesMatchSpecCard

/-- THE TIED CARD OF 'ephemeralaw6.RecordPiecesJoin'. -/
def recordPiecesJoinCard : Claim7 := { stood := { row := recordPiecesJoinRow, standIns := [], harness := (true, "c79744028eaabeaa0347bd7f2d343b204c05b478f14f4c9b6f3082e77985f8c0"), looks := true }, kinds := [], alts := [], laidByText := true, laidKinds := [.data, .data, .data, .data, .sentinel, .sentinel, .pinned], laidTests := true, laidLooks := .later }
def RecordPiecesJoinCardSaid : Prop := Claim7.holds Tryz.pinned (.plain (OpenSpec.ofChange recordPiecesJoinSpec)) recordPiecesJoinCard

/-- THE TIED CARD OF 'ephemeralaw6.RecordsComeBack'. -/
def recordsComeBackCard : Claim7 := { stood := { row := recordsComeBackRow, standIns := [], harness := (true, "c79744028eaabeaa0347bd7f2d343b204c05b478f14f4c9b6f3082e77985f8c0"), looks := true }, kinds := [], alts := [], laidByText := true, laidKinds := [.data, .data, .data, .data, .sentinel, .sentinel, .pinned], laidTests := true, laidLooks := .later }
def RecordsComeBackCardSaid : Prop := Claim7.holds Tryz.pinned (.plain (OpenSpec.ofChange recordsComeBackSpec)) recordsComeBackCard

/-- THE TIED CARD OF 'ephemeralaw6.RecordFilesComeBack'. -/
def recordFilesComeBackCard : Claim7 := { stood := { row := recordFilesComeBackRow, standIns := [], harness := (true, "c79744028eaabeaa0347bd7f2d343b204c05b478f14f4c9b6f3082e77985f8c0"), looks := true }, kinds := [], alts := [], laidByText := true, laidKinds := [.data, .data, .data, .data, .sentinel, .sentinel, .pinned], laidTests := true, laidLooks := .later }
def RecordFilesComeBackCardSaid : Prop := Claim7.holds Tryz.pinned (.plain (OpenSpec.ofChange recordFilesComeBackSpec)) recordFilesComeBackCard

/-- THE TIED CARD OF 'ephemeralaw6.RecordMarksRead'. -/
def recordMarksReadCard : Claim7 := { stood := { row := recordMarksReadRow, standIns := [], harness := (true, "c79744028eaabeaa0347bd7f2d343b204c05b478f14f4c9b6f3082e77985f8c0"), looks := true }, kinds := [], alts := [], laidByText := true, laidKinds := [.data, .data, .data, .data, .sentinel, .sentinel, .pinned], laidTests := true, laidLooks := .later }
def RecordMarksReadCardSaid : Prop := Claim7.holds Tryz.pinned (.plain (OpenSpec.ofChange recordMarksReadSpec)) recordMarksReadCard

/-- THE TIED CARD OF 'ephemeralaw6.RecordReadsMatchSpec'. -/
def recordReadsMatchSpecCard : Claim7 := { stood := { row := recordReadsMatchSpecRow, standIns := [], harness := (true, "c79744028eaabeaa0347bd7f2d343b204c05b478f14f4c9b6f3082e77985f8c0"), looks := true }, kinds := [], alts := [], laidByText := true, laidKinds := [.data, .data, .data, .data, .sentinel, .sentinel, .pinned], laidTests := true, laidLooks := .later }
def RecordReadsMatchSpecCardSaid : Prop := Claim7.holds Tryz.pinned (.plain (OpenSpec.ofChange recordReadsMatchSpecSpec)) recordReadsMatchSpecCard

/-- THE TIED CARD OF 'ephemeralaw6.RecordRescuesMatchSpec'. -/
def recordRescuesMatchSpecCard : Claim7 := { stood := { row := recordRescuesMatchSpecRow, standIns := [], harness := (true, "c79744028eaabeaa0347bd7f2d343b204c05b478f14f4c9b6f3082e77985f8c0"), looks := true }, kinds := [], alts := [], laidByText := true, laidKinds := [.data, .data, .data, .data, .sentinel, .sentinel, .pinned], laidTests := true, laidLooks := .later }
def RecordRescuesMatchSpecCardSaid : Prop := Claim7.holds Tryz.pinned (.plain (OpenSpec.ofChange recordRescuesMatchSpecSpec)) recordRescuesMatchSpecCard

/-- THE TIED CARD OF 'ephemeralaw6.RecordFilesReadMatchSpec'. -/
def recordFilesReadMatchSpecCard : Claim7 := { stood := { row := recordFilesReadMatchSpecRow, standIns := [], harness := (true, "c79744028eaabeaa0347bd7f2d343b204c05b478f14f4c9b6f3082e77985f8c0"), looks := true }, kinds := [], alts := [], laidByText := true, laidKinds := [.data, .data, .data, .data, .sentinel, .sentinel, .pinned], laidTests := true, laidLooks := .later }
def RecordFilesReadMatchSpecCardSaid : Prop := Claim7.holds Tryz.pinned (.plain (OpenSpec.ofChange recordFilesReadMatchSpecSpec)) recordFilesReadMatchSpecCard

/-- THE TIED CARD OF 'ephemeralaw6.RecordRescuesOthers'. -/
def recordRescuesOthersCard : Claim7 := { stood := { row := recordRescuesOthersRow, standIns := [], harness := (true, "c79744028eaabeaa0347bd7f2d343b204c05b478f14f4c9b6f3082e77985f8c0"), looks := true }, kinds := [], alts := [], laidByText := true, laidKinds := [.data, .data, .data, .data, .sentinel, .sentinel, .pinned], laidTests := true, laidLooks := .later }
def RecordRescuesOthersCardSaid : Prop := Claim7.holds Tryz.pinned (.plain (OpenSpec.ofChange recordRescuesOthersSpec)) recordRescuesOthersCard

/-- THE SECOND FORM's CARD OF 'ephemeralaw6.RecordDividedMatchSpec'. -/
def recordDividedMatchSpecUptoCard : Claim7 := { stood := { row := recordDividedMatchSpecUptoRow, standIns := [], harness := (true, "c79744028eaabeaa0347bd7f2d343b204c05b478f14f4c9b6f3082e77985f8c0"), looks := true }, kinds := [], alts := [], laidByText := true, laidKinds := [.data, .data, .data, .data, .pinned], laidTests := true, laidLooks := .later }
def RecordDividedMatchSpecUptoCardSaid : Prop := Claim7.holds Tryz.pinned (.plain (OpenSpec.upto recordDividedMatchSpecSpec)) recordDividedMatchSpecUptoCard

/-- THE SECOND FORM's CARD OF 'ephemeralaw6.RecordRevisitsShow'. -/
def recordRevisitsShowUptoCard : Claim7 := { stood := { row := recordRevisitsShowUptoRow, standIns := [], harness := (true, "c79744028eaabeaa0347bd7f2d343b204c05b478f14f4c9b6f3082e77985f8c0"), looks := true }, kinds := [], alts := [], laidByText := true, laidKinds := [.data, .data, .data, .data, .sentinel, .sentinel, .pinned], laidTests := true, laidLooks := .later }
def RecordRevisitsShowUptoCardSaid : Prop := Claim7.holds Tryz.pinned (.plain (OpenSpec.upto recordRevisitsShowSpec)) recordRevisitsShowUptoCard

/-- THE SECOND FORM's CARD OF 'ephemeralaw6.RecordRevisitsMatchSpec'. -/
def recordRevisitsMatchSpecUptoCard : Claim7 := { stood := { row := recordRevisitsMatchSpecUptoRow, standIns := [], harness := (true, "c79744028eaabeaa0347bd7f2d343b204c05b478f14f4c9b6f3082e77985f8c0"), looks := true }, kinds := [], alts := [], laidByText := true, laidKinds := [.data, .data, .data, .data, .sentinel, .sentinel, .pinned], laidTests := true, laidLooks := .later }
def RecordRevisitsMatchSpecUptoCardSaid : Prop := Claim7.holds Tryz.pinned (.plain (OpenSpec.upto recordRevisitsMatchSpecSpec)) recordRevisitsMatchSpecUptoCard

/-- THE SECOND FORM's CARD OF 'ephemeralaw6.RecordPiecesMatchSpec'. -/
def recordPiecesMatchSpecUptoCard : Claim7 := { stood := { row := recordPiecesMatchSpecUptoRow, standIns := [], harness := (true, "c79744028eaabeaa0347bd7f2d343b204c05b478f14f4c9b6f3082e77985f8c0"), looks := true }, kinds := [], alts := [], laidByText := true, laidKinds := [.data, .data, .data, .data, .sentinel, .sentinel, .pinned], laidTests := true, laidLooks := .later }
def RecordPiecesMatchSpecUptoCardSaid : Prop := Claim7.holds Tryz.pinned (.plain (OpenSpec.upto recordPiecesMatchSpecSpec)) recordPiecesMatchSpecUptoCard

/-- THE SECOND FORM's CARD OF 'ephemeralaw6.RecordPiecesJoin'. -/
def recordPiecesJoinUptoCard : Claim7 := { stood := { row := recordPiecesJoinUptoRow, standIns := [], harness := (true, "c79744028eaabeaa0347bd7f2d343b204c05b478f14f4c9b6f3082e77985f8c0"), looks := true }, kinds := [], alts := [], laidByText := true, laidKinds := [.data, .data, .data, .data, .sentinel, .sentinel, .pinned], laidTests := true, laidLooks := .later }
def RecordPiecesJoinUptoCardSaid : Prop := Claim7.holds Tryz.pinned (.plain (OpenSpec.upto recordPiecesJoinSpec)) recordPiecesJoinUptoCard

/-- THE SECOND FORM's CARD OF 'ephemeralaw6.RecordsComeBack'. -/
def recordsComeBackUptoCard : Claim7 := { stood := { row := recordsComeBackUptoRow, standIns := [], harness := (true, "c79744028eaabeaa0347bd7f2d343b204c05b478f14f4c9b6f3082e77985f8c0"), looks := true }, kinds := [], alts := [], laidByText := true, laidKinds := [.data, .data, .data, .data, .sentinel, .sentinel, .pinned], laidTests := true, laidLooks := .later }
def RecordsComeBackUptoCardSaid : Prop := Claim7.holds Tryz.pinned (.plain (OpenSpec.upto recordsComeBackSpec)) recordsComeBackUptoCard

/-- THE SECOND FORM's CARD OF 'ephemeralaw6.RecordFilesComeBack'. -/
def recordFilesComeBackUptoCard : Claim7 := { stood := { row := recordFilesComeBackUptoRow, standIns := [], harness := (true, "c79744028eaabeaa0347bd7f2d343b204c05b478f14f4c9b6f3082e77985f8c0"), looks := true }, kinds := [], alts := [], laidByText := true, laidKinds := [.data, .data, .data, .data, .sentinel, .sentinel, .pinned], laidTests := true, laidLooks := .later }
def RecordFilesComeBackUptoCardSaid : Prop := Claim7.holds Tryz.pinned (.plain (OpenSpec.upto recordFilesComeBackSpec)) recordFilesComeBackUptoCard

/-- THE SECOND FORM's CARD OF 'ephemeralaw6.RecordMarksRead'. -/
def recordMarksReadUptoCard : Claim7 := { stood := { row := recordMarksReadUptoRow, standIns := [], harness := (true, "c79744028eaabeaa0347bd7f2d343b204c05b478f14f4c9b6f3082e77985f8c0"), looks := true }, kinds := [], alts := [], laidByText := true, laidKinds := [.data, .data, .data, .data, .sentinel, .sentinel, .pinned], laidTests := true, laidLooks := .later }
def RecordMarksReadUptoCardSaid : Prop := Claim7.holds Tryz.pinned (.plain (OpenSpec.upto recordMarksReadSpec)) recordMarksReadUptoCard

/-- THE SECOND FORM's CARD OF 'ephemeralaw6.RecordReadsMatchSpec'. -/
def recordReadsMatchSpecUptoCard : Claim7 := { stood := { row := recordReadsMatchSpecUptoRow, standIns := [], harness := (true, "c79744028eaabeaa0347bd7f2d343b204c05b478f14f4c9b6f3082e77985f8c0"), looks := true }, kinds := [], alts := [], laidByText := true, laidKinds := [.data, .data, .data, .data, .sentinel, .sentinel, .pinned], laidTests := true, laidLooks := .later }
def RecordReadsMatchSpecUptoCardSaid : Prop := Claim7.holds Tryz.pinned (.plain (OpenSpec.upto recordReadsMatchSpecSpec)) recordReadsMatchSpecUptoCard

/-- THE SECOND FORM's CARD OF 'ephemeralaw6.RecordRescuesMatchSpec'. -/
def recordRescuesMatchSpecUptoCard : Claim7 := { stood := { row := recordRescuesMatchSpecUptoRow, standIns := [], harness := (true, "c79744028eaabeaa0347bd7f2d343b204c05b478f14f4c9b6f3082e77985f8c0"), looks := true }, kinds := [], alts := [], laidByText := true, laidKinds := [.data, .data, .data, .data, .sentinel, .sentinel, .pinned], laidTests := true, laidLooks := .later }
def RecordRescuesMatchSpecUptoCardSaid : Prop := Claim7.holds Tryz.pinned (.plain (OpenSpec.upto recordRescuesMatchSpecSpec)) recordRescuesMatchSpecUptoCard

/-- THE SECOND FORM's CARD OF 'ephemeralaw6.RecordFilesReadMatchSpec'. -/
def recordFilesReadMatchSpecUptoCard : Claim7 := { stood := { row := recordFilesReadMatchSpecUptoRow, standIns := [], harness := (true, "c79744028eaabeaa0347bd7f2d343b204c05b478f14f4c9b6f3082e77985f8c0"), looks := true }, kinds := [], alts := [], laidByText := true, laidKinds := [.data, .data, .data, .data, .sentinel, .sentinel, .pinned], laidTests := true, laidLooks := .later }
def RecordFilesReadMatchSpecUptoCardSaid : Prop := Claim7.holds Tryz.pinned (.plain (OpenSpec.upto recordFilesReadMatchSpecSpec)) recordFilesReadMatchSpecUptoCard

/-- THE SECOND FORM's CARD OF 'ephemeralaw6.RecordRescuesOthers'. -/
def recordRescuesOthersUptoCard : Claim7 := { stood := { row := recordRescuesOthersUptoRow, standIns := [], harness := (true, "c79744028eaabeaa0347bd7f2d343b204c05b478f14f4c9b6f3082e77985f8c0"), looks := true }, kinds := [], alts := [], laidByText := true, laidKinds := [.data, .data, .data, .data, .sentinel, .sentinel, .pinned], laidTests := true, laidLooks := .later }
def RecordRescuesOthersUptoCardSaid : Prop := Claim7.holds Tryz.pinned (.plain (OpenSpec.upto recordRescuesOthersSpec)) recordRescuesOthersUptoCard
end Rows
end Go.Proofs.YtacpgblabfelhaaGreatDoor
