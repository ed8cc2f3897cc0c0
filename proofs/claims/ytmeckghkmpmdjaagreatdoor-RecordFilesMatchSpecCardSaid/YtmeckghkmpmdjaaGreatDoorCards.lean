/-
  DERIVED. GIVEN WITH THE SEED: THE CARDS: each row of YtmeckghkmpmdjaaGreatDoorRows.lean that lists a variable, with what it lists TIED to the program's text (the seventh form; the later family's looks); each row that meets fmt, with fmt's text TOLD by the authors' own Lean function (tested against real Go, not proved from fmt's source: count such statements apart). THE CARD IS WHAT COUNTS. Prove the row's statement (the work); the ties are given (YtmeckghkmpmdjaaGreatDoorTie.lean); close each card by the builder's one call (the guide's Derived/Test/ToyasCard.lean, 'card_holds'). Laid BY PROGRAM, IN A SANDBOX (cutbox-door.mjs). By AI agents, Wed Nov 11 2026. No macro, syntax, notation, axiom, sorry.
-/
import Derived.Test.YtmeckghkmpmdjaaGreatDoorRows
import GoSem.ClaimSeven
namespace Go.Proofs.YtmeckghkmpmdjaaGreatDoor
namespace Rows

/-- THE TIED CARD OF 'ephemeralaw6.RecordFilesMatchSpec'. -/
def recordFilesMatchSpecCard : Claim7 := { stood := { row := recordFilesMatchSpecRow, standIns := [], harness := (true, "1c4bfec97af0e0b5830c1ec00a4623baba0c2772678bd55d3ac5628792b498b7"), looks := true }, kinds := [], alts := [], laidByText := true, laidKinds := [.data, .data, .data, .data, .pinned], laidTests := true, laidLooks := .later }
def RecordFilesMatchSpecCardSaid : Prop := Claim7.holds Tryz.pinned (.plain (OpenSpec.ofChange recordFilesMatchSpecSpec)) recordFilesMatchSpecCard

/-- THE TIED CARD OF 'ephemeralaw6.RecordDividedMatchSpec'. -/
def recordDividedMatchSpecCard : Claim7 := { stood := { row := recordDividedMatchSpecRow, standIns := [], harness := (true, "1c4bfec97af0e0b5830c1ec00a4623baba0c2772678bd55d3ac5628792b498b7"), looks := true }, kinds := [], alts := [], laidByText := true, laidKinds := [.data, .data, .data, .data, .pinned], laidTests := true, laidLooks := .later }
def RecordDividedMatchSpecCardSaid : Prop := Claim7.holds Tryz.pinned (.plain (OpenSpec.ofChange recordDividedMatchSpecSpec)) recordDividedMatchSpecCard

/-- THE TIED CARD OF 'ephemeralaw6.RecordsComeBack'. -/
def recordsComeBackCard : Claim7 := { stood := { row := recordsComeBackRow, standIns := [], harness := (true, "1c4bfec97af0e0b5830c1ec00a4623baba0c2772678bd55d3ac5628792b498b7"), looks := true }, kinds := [], alts := [], laidByText := true, laidKinds := [.data, .data, .data, .data, .sentinel, .sentinel, .pinned], laidTests := true, laidLooks := .later }
def RecordsComeBackCardSaid : Prop := Claim7.holds Tryz.pinned (.plain (OpenSpec.ofChange recordsComeBackSpec)) recordsComeBackCard

/-- THE TIED CARD OF 'ephemeralaw6.RecordFilesComeBack'. -/
def recordFilesComeBackCard : Claim7 := { stood := { row := recordFilesComeBackRow, standIns := [], harness := (true, "1c4bfec97af0e0b5830c1ec00a4623baba0c2772678bd55d3ac5628792b498b7"), looks := true }, kinds := [], alts := [], laidByText := true, laidKinds := [.data, .data, .data, .data, .sentinel, .sentinel, .pinned], laidTests := true, laidLooks := .later }
def RecordFilesComeBackCardSaid : Prop := Claim7.holds Tryz.pinned (.plain (OpenSpec.ofChange recordFilesComeBackSpec)) recordFilesComeBackCard

/-- THE TIED CARD OF 'ephemeralaw6.RecordMarksRead'. -/
def recordMarksReadCard : Claim7 := { stood := { row := recordMarksReadRow, standIns := [], harness := (true, "1c4bfec97af0e0b5830c1ec00a4623baba0c2772678bd55d3ac5628792b498b7"), looks := true }, kinds := [], alts := [], laidByText := true, laidKinds := [.data, .data, .data, .data, .sentinel, .sentinel, .pinned], laidTests := true, laidLooks := .later }
def RecordMarksReadCardSaid : Prop := Claim7.holds Tryz.pinned (.plain (OpenSpec.ofChange recordMarksReadSpec)) recordMarksReadCard

/-- THE TIED CARD OF 'ephemeralaw6.RecordReadsMatchSpec'. -/
def recordReadsMatchSpecCard : Claim7 := { stood := { row := recordReadsMatchSpecRow, standIns := [], harness := (true, "1c4bfec97af0e0b5830c1ec00a4623baba0c2772678bd55d3ac5628792b498b7"), looks := true }, kinds := [], alts := [], laidByText := true, laidKinds := [.data, .data, .data, .data, .sentinel, .sentinel, .pinned], laidTests := true, laidLooks := .later }
def RecordReadsMatchSpecCardSaid : Prop := Claim7.holds Tryz.pinned (.plain (OpenSpec.ofChange recordReadsMatchSpecSpec)) recordReadsMatchSpecCard

/-- THE TIED CARD OF 'ephemeralaw6.RecordRescuesMatchSpec'. -/
def recordRescuesMatchSpecCard : Claim7 := { stood := { row := recordRescuesMatchSpecRow, standIns := [], harness := (true, "1c4bfec97af0e0b5830c1ec00a4623baba0c2772678bd55d3ac5628792b498b7"), looks := true }, kinds := [], alts := [], laidByText := true, laidKinds := [.data, .data, .data, .data, .sentinel, .sentinel, .pinned], laidTests := true, laidLooks := .later }
def RecordRescuesMatchSpecCardSaid : Prop := Claim7.holds Tryz.pinned (.plain (OpenSpec.ofChange recordRescuesMatchSpecSpec)) recordRescuesMatchSpecCard

/-- THE TIED CARD OF 'ephemeralaw6.RecordFilesReadMatchSpec'. -/
def recordFilesReadMatchSpecCard : Claim7 := { stood := { row := recordFilesReadMatchSpecRow, standIns := [], harness := (true, "1c4bfec97af0e0b5830c1ec00a4623baba0c2772678bd55d3ac5628792b498b7"), looks := true }, kinds := [], alts := [], laidByText := true, laidKinds := [.data, .data, .data, .data, .sentinel, .sentinel, .pinned], laidTests := true, laidLooks := .later }
def RecordFilesReadMatchSpecCardSaid : Prop := Claim7.holds Tryz.pinned (.plain (OpenSpec.ofChange recordFilesReadMatchSpecSpec)) recordFilesReadMatchSpecCard

/-- THE TIED CARD OF 'ephemeralaw6.RecordRescuesOthers'. -/
def recordRescuesOthersCard : Claim7 := { stood := { row := recordRescuesOthersRow, standIns := [], harness := (true, "1c4bfec97af0e0b5830c1ec00a4623baba0c2772678bd55d3ac5628792b498b7"), looks := true }, kinds := [], alts := [], laidByText := true, laidKinds := [.data, .data, .data, .data, .sentinel, .sentinel, .pinned], laidTests := true, laidLooks := .later }
def RecordRescuesOthersCardSaid : Prop := Claim7.holds Tryz.pinned (.plain (OpenSpec.ofChange recordRescuesOthersSpec)) recordRescuesOthersCard

/-- THE SECOND FORM's CARD OF 'ephemeralaw6.RecordFilesMatchSpec'. -/
def recordFilesMatchSpecUptoCard : Claim7 := { stood := { row := recordFilesMatchSpecUptoRow, standIns := [], harness := (true, "1c4bfec97af0e0b5830c1ec00a4623baba0c2772678bd55d3ac5628792b498b7"), looks := true }, kinds := [], alts := [], laidByText := true, laidKinds := [.data, .data, .data, .data, .pinned], laidTests := true, laidLooks := .later }
def RecordFilesMatchSpecUptoCardSaid : Prop := Claim7.holds Tryz.pinned (.plain (OpenSpec.upto recordFilesMatchSpecSpec)) recordFilesMatchSpecUptoCard

/-- THE SECOND FORM's CARD OF 'ephemeralaw6.RecordDividedMatchSpec'. -/
def recordDividedMatchSpecUptoCard : Claim7 := { stood := { row := recordDividedMatchSpecUptoRow, standIns := [], harness := (true, "1c4bfec97af0e0b5830c1ec00a4623baba0c2772678bd55d3ac5628792b498b7"), looks := true }, kinds := [], alts := [], laidByText := true, laidKinds := [.data, .data, .data, .data, .pinned], laidTests := true, laidLooks := .later }
def RecordDividedMatchSpecUptoCardSaid : Prop := Claim7.holds Tryz.pinned (.plain (OpenSpec.upto recordDividedMatchSpecSpec)) recordDividedMatchSpecUptoCard

/-- THE SECOND FORM's CARD OF 'ephemeralaw6.RecordsComeBack'. -/
def recordsComeBackUptoCard : Claim7 := { stood := { row := recordsComeBackUptoRow, standIns := [], harness := (true, "1c4bfec97af0e0b5830c1ec00a4623baba0c2772678bd55d3ac5628792b498b7"), looks := true }, kinds := [], alts := [], laidByText := true, laidKinds := [.data, .data, .data, .data, .sentinel, .sentinel, .pinned], laidTests := true, laidLooks := .later }
def RecordsComeBackUptoCardSaid : Prop := Claim7.holds Tryz.pinned (.plain (OpenSpec.upto recordsComeBackSpec)) recordsComeBackUptoCard

/-- THE SECOND FORM's CARD OF 'ephemeralaw6.RecordFilesComeBack'. -/
def recordFilesComeBackUptoCard : Claim7 := { stood := { row := recordFilesComeBackUptoRow, standIns := [], harness := (true, "1c4bfec97af0e0b5830c1ec00a4623baba0c2772678bd55d3ac5628792b498b7"), looks := true }, kinds := [], alts := [], laidByText := true, laidKinds := [.data, .data, .data, .data, .sentinel, .sentinel, .pinned], laidTests := true, laidLooks := .later }
def RecordFilesComeBackUptoCardSaid : Prop := Claim7.holds Tryz.pinned (.plain (OpenSpec.upto recordFilesComeBackSpec)) recordFilesComeBackUptoCard

/-- THE SECOND FORM's CARD OF 'ephemeralaw6.RecordMarksRead'. -/
def recordMarksReadUptoCard : Claim7 := { stood := { row := recordMarksReadUptoRow, standIns := [], harness := (true, "1c4bfec97af0e0b5830c1ec00a4623baba0c2772678bd55d3ac5628792b498b7"), looks := true }, kinds := [], alts := [], laidByText := true, laidKinds := [.data, .data, .data, .data, .sentinel, .sentinel, .pinned], laidTests := true, laidLooks := .later }
def RecordMarksReadUptoCardSaid : Prop := Claim7.holds Tryz.pinned (.plain (OpenSpec.upto recordMarksReadSpec)) recordMarksReadUptoCard

/-- THE SECOND FORM's CARD OF 'ephemeralaw6.RecordReadsMatchSpec'. -/
def recordReadsMatchSpecUptoCard : Claim7 := { stood := { row := recordReadsMatchSpecUptoRow, standIns := [], harness := (true, "1c4bfec97af0e0b5830c1ec00a4623baba0c2772678bd55d3ac5628792b498b7"), looks := true }, kinds := [], alts := [], laidByText := true, laidKinds := [.data, .data, .data, .data, .sentinel, .sentinel, .pinned], laidTests := true, laidLooks := .later }
def RecordReadsMatchSpecUptoCardSaid : Prop := Claim7.holds Tryz.pinned (.plain (OpenSpec.upto recordReadsMatchSpecSpec)) recordReadsMatchSpecUptoCard

/-- THE SECOND FORM's CARD OF 'ephemeralaw6.RecordRescuesMatchSpec'. -/
def recordRescuesMatchSpecUptoCard : Claim7 := { stood := { row := recordRescuesMatchSpecUptoRow, standIns := [], harness := (true, "1c4bfec97af0e0b5830c1ec00a4623baba0c2772678bd55d3ac5628792b498b7"), looks := true }, kinds := [], alts := [], laidByText := true, laidKinds := [.data, .data, .data, .data, .sentinel, .sentinel, .pinned], laidTests := true, laidLooks := .later }
def RecordRescuesMatchSpecUptoCardSaid : Prop := Claim7.holds Tryz.pinned (.plain (OpenSpec.upto recordRescuesMatchSpecSpec)) recordRescuesMatchSpecUptoCard

/-- THE SECOND FORM's CARD OF 'ephemeralaw6.RecordFilesReadMatchSpec'. -/
def recordFilesReadMatchSpecUptoCard : Claim7 := { stood := { row := recordFilesReadMatchSpecUptoRow, standIns := [], harness := (true, "1c4bfec97af0e0b5830c1ec00a4623baba0c2772678bd55d3ac5628792b498b7"), looks := true }, kinds := [], alts := [], laidByText := true, laidKinds := [.data, .data, .data, .data, .sentinel, .sentinel, .pinned], laidTests := true, laidLooks := .later }
def RecordFilesReadMatchSpecUptoCardSaid : Prop := Claim7.holds Tryz.pinned (.plain (OpenSpec.upto recordFilesReadMatchSpecSpec)) recordFilesReadMatchSpecUptoCard

/-- THE SECOND FORM's CARD OF 'ephemeralaw6.RecordRescuesOthers'. -/
def recordRescuesOthersUptoCard : Claim7 := { stood := { row := recordRescuesOthersUptoRow, standIns := [], harness := (true, "1c4bfec97af0e0b5830c1ec00a4623baba0c2772678bd55d3ac5628792b498b7"), looks := true }, kinds := [], alts := [], laidByText := true, laidKinds := [.data, .data, .data, .data, .sentinel, .sentinel, .pinned], laidTests := true, laidLooks := .later }
def RecordRescuesOthersUptoCardSaid : Prop := Claim7.holds Tryz.pinned (.plain (OpenSpec.upto recordRescuesOthersSpec)) recordRescuesOthersUptoCard
end Rows
end Go.Proofs.YtmeckghkmpmdjaaGreatDoor
