/-
  DERIVED. GIVEN WITH THE SEED: THE CARDS: each row of YtmnokccdnjokoaaDoorRows.lean that lists a variable, with what it lists TIED to the program's text (the seventh form; the later family's looks); each row that meets fmt, with fmt's text TOLD by the authors' own Lean function (tested against real Go, not proved from fmt's source: count such statements apart). THE CARD IS WHAT COUNTS. Prove the row's statement (the work); the ties are given (YtmnokccdnjokoaaDoorTie.lean); close each card by the builder's one call (the guide's Derived/Test/ToyasCard.lean, 'card_holds'). Laid BY PROGRAM, IN A SANDBOX (cutbox-door.mjs). By AI agents, Wed Nov 11 2026. No macro, syntax, notation, axiom, sorry.
-/
import Derived.Test.YtmnokccdnjokoaaDoorRows
import GoSem.ClaimSeven
namespace Go.Proofs.YtmnokccdnjokoaaDoor
namespace Rows

/-- THE TIED CARD OF 'ephemeralaw6.RecordDividedIsAll'. -/
def recordDividedIsAllCard : Claim7 := { stood := { row := recordDividedIsAllRow, standIns := [], harness := (true, "1e8385b8776bf648f1f1c5903eaa14eeead6bef9d0dcbde099970d615db509d5"), looks := false }, kinds := [], alts := [], laidByText := true, laidKinds := [.data, .data, .data, .data, .pinned], laidTests := true, laidLooks := .later }
def RecordDividedIsAllCardSaid : Prop := Claim7.holds Tryd.pinned (.plain (OpenSpec.ofChange recordDividedIsAllSpec)) recordDividedIsAllCard

/-- THE TIED CARD OF 'ephemeralaw6.RecordWithoutLeavesNone'. -/
def recordWithoutLeavesNoneCard : Claim7 := { stood := { row := recordWithoutLeavesNoneRow, standIns := [], harness := (true, "1e8385b8776bf648f1f1c5903eaa14eeead6bef9d0dcbde099970d615db509d5"), looks := false }, kinds := [], alts := [], laidByText := true, laidKinds := [.data, .data, .data, .data, .pinned], laidTests := true, laidLooks := .later }
def RecordWithoutLeavesNoneCardSaid : Prop := Claim7.holds Tryd.pinned (.plain (OpenSpec.ofChange recordWithoutLeavesNoneSpec)) recordWithoutLeavesNoneCard

/-- THE SECOND FORM's CARD OF 'ephemeralaw6.RecordDividedIsAll'. -/
def recordDividedIsAllUptoCard : Claim7 := { stood := { row := recordDividedIsAllUptoRow, standIns := [], harness := (true, "1e8385b8776bf648f1f1c5903eaa14eeead6bef9d0dcbde099970d615db509d5"), looks := false }, kinds := [], alts := [], laidByText := true, laidKinds := [.data, .data, .data, .data, .pinned], laidTests := true, laidLooks := .later }
def RecordDividedIsAllUptoCardSaid : Prop := Claim7.holds Tryd.pinned (.plain (OpenSpec.upto recordDividedIsAllSpec)) recordDividedIsAllUptoCard

/-- THE SECOND FORM's CARD OF 'ephemeralaw6.RecordWithoutLeavesNone'. -/
def recordWithoutLeavesNoneUptoCard : Claim7 := { stood := { row := recordWithoutLeavesNoneUptoRow, standIns := [], harness := (true, "1e8385b8776bf648f1f1c5903eaa14eeead6bef9d0dcbde099970d615db509d5"), looks := false }, kinds := [], alts := [], laidByText := true, laidKinds := [.data, .data, .data, .data, .pinned], laidTests := true, laidLooks := .later }
def RecordWithoutLeavesNoneUptoCardSaid : Prop := Claim7.holds Tryd.pinned (.plain (OpenSpec.upto recordWithoutLeavesNoneSpec)) recordWithoutLeavesNoneUptoCard
end Rows
end Go.Proofs.YtmnokccdnjokoaaDoor
