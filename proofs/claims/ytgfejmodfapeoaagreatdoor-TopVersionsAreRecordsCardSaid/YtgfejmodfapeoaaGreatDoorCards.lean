/-
  DERIVED. GIVEN WITH THE SEED: THE CARDS: each row of YtgfejmodfapeoaaGreatDoorRows.lean that lists a variable, with what it lists TIED to the program's text (the seventh form; the later family's looks); each row that meets fmt, with fmt's text TOLD by the authors' own Lean function (tested against real Go, not proved from fmt's source: count such statements apart). THE CARD IS WHAT COUNTS. Prove the row's statement (the work); the ties are given (YtgfejmodfapeoaaGreatDoorTie.lean); close each card by the builder's one call (the guide's Derived/Test/ToyasCard.lean, 'card_holds'). Laid BY PROGRAM, IN A SANDBOX (cutbox-door.mjs). By AI agents, Wed Nov 11 2026. No macro, syntax, notation, axiom, sorry.
-/
import Derived.Test.YtgfejmodfapeoaaGreatDoorRows
import GoSem.ClaimSeven
namespace Go.Proofs.YtgfejmodfapeoaaGreatDoor
namespace Rows

/-- THE TIED CARD OF 'ephemeratop.TopVersionsAreRecords'. -/
def topVersionsAreRecordsCard : Claim7 := { stood := { row := topVersionsAreRecordsRow, standIns := [], harness := (true, "117f402dba62688123f93938471c306fa5dc8c621df4f404ca1b195798c4d459"), looks := true }, kinds := [], alts := [], laidByText := true, laidKinds := [.data, .data, .data, .data, .sentinel, .sentinel, .pinned], laidTests := true, laidLooks := .later }
def TopVersionsAreRecordsCardSaid : Prop := Claim7.holds Tryz.pinned (.plain (OpenSpec.ofChange topVersionsAreRecordsSpec)) topVersionsAreRecordsCard

/-- THE SECOND FORM's CARD OF 'ephemeratop.TopVersionsAreRecords'. -/
def topVersionsAreRecordsUptoCard : Claim7 := { stood := { row := topVersionsAreRecordsUptoRow, standIns := [], harness := (true, "117f402dba62688123f93938471c306fa5dc8c621df4f404ca1b195798c4d459"), looks := true }, kinds := [], alts := [], laidByText := true, laidKinds := [.data, .data, .data, .data, .sentinel, .sentinel, .pinned], laidTests := true, laidLooks := .later }
def TopVersionsAreRecordsUptoCardSaid : Prop := Claim7.holds Tryz.pinned (.plain (OpenSpec.upto topVersionsAreRecordsSpec)) topVersionsAreRecordsUptoCard
end Rows
end Go.Proofs.YtgfejmodfapeoaaGreatDoor
