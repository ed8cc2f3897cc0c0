/-
  DERIVED. GIVEN WITH THE SEED: THE CARDS: each row of YtakfogogdklefaaDoorRows.lean that lists a variable, with what it lists TIED to the program's text (the seventh form; the later family's looks); each row that meets fmt, with fmt's text TOLD by the authors' own Lean function (tested against real Go, not proved from fmt's source: count such statements apart). THE CARD IS WHAT COUNTS. Prove the row's statement (the work); the ties are given (YtakfogogdklefaaDoorTie.lean); close each card by the builder's one call (the guide's Derived/Test/ToyasCard.lean, 'card_holds'). Laid BY PROGRAM, IN A SANDBOX (cutbox-door.mjs). By AI agents, Wed Nov 11 2026. No macro, syntax, notation, axiom, sorry.
-/
import Derived.Test.YtakfogogdklefaaDoorRows
import GoSem.ClaimSeven
namespace Go.Proofs.YtakfogogdklefaaDoor
namespace Rows

/-- THE TIED CARD OF 'ephemeralaw4.RobotsSplitListsHoldAll'. -/
def robotsSplitListsHoldAllCard : Claim7 := { stood := { row := robotsSplitListsHoldAllRow, standIns := [], harness := (true, "c31fb8e76ca50c1d0c631878e3ea5adca5eda39798fe58aca4383e5e1f784ab4"), looks := false }, kinds := [], alts := [], laidByText := true, laidKinds := [.data, .data, .data, .data, .pinned], laidTests := true, laidLooks := .later }
def RobotsSplitListsHoldAllCardSaid : Prop := Claim7.holds Tryd.pinned (.plain (OpenSpec.ofChange robotsSplitListsHoldAllSpec)) robotsSplitListsHoldAllCard

/-- THE SECOND FORM's CARD OF 'ephemeralaw4.RobotsSplitListsHoldAll'. -/
def robotsSplitListsHoldAllUptoCard : Claim7 := { stood := { row := robotsSplitListsHoldAllUptoRow, standIns := [], harness := (true, "c31fb8e76ca50c1d0c631878e3ea5adca5eda39798fe58aca4383e5e1f784ab4"), looks := false }, kinds := [], alts := [], laidByText := true, laidKinds := [.data, .data, .data, .data, .pinned], laidTests := true, laidLooks := .later }
def RobotsSplitListsHoldAllUptoCardSaid : Prop := Claim7.holds Tryd.pinned (.plain (OpenSpec.upto robotsSplitListsHoldAllSpec)) robotsSplitListsHoldAllUptoCard
end Rows
end Go.Proofs.YtakfogogdklefaaDoor
