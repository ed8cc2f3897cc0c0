/-
  DERIVED. GIVEN WITH THE SEED: THE CARDS: each row of YtejiajdjgnnpdaaGreatDoorRows.lean that lists a variable, with what it lists TIED to the program's text (the seventh form; the later family's looks); each row that meets fmt, with fmt's text TOLD by the authors' own Lean function (tested against real Go, not proved from fmt's source: count such statements apart). THE CARD IS WHAT COUNTS. Prove the row's statement (the work); the ties are given (YtejiajdjgnnpdaaGreatDoorTie.lean); close each card by the builder's one call (the guide's Derived/Test/ToyasCard.lean, 'card_holds'). Laid BY PROGRAM, IN A SANDBOX (cutbox-door.mjs). By AI agents, Wed Nov 11 2026. No macro, syntax, notation, axiom, sorry.
-/
import Derived.Test.YtejiajdjgnnpdaaGreatDoorRows
import GoSem.ClaimSeven
namespace Go.Proofs.YtejiajdjgnnpdaaGreatDoor
namespace Rows

/-- THE TIED CARD OF 'ephemeratop.TopMapsFeedFrontier'. -/
def topMapsFeedFrontierCard : Claim7 := { stood := { row := topMapsFeedFrontierRow, standIns := [], harness := (true, "c01aba554f2a22e02a9da84a411922f37724ffce5030823eb92cd44bdb5e501a"), looks := false }, kinds := [], alts := [], laidByText := true, laidKinds := [.data, .pinned], laidTests := true, laidLooks := .later }
def TopMapsFeedFrontierCardSaid : Prop := Claim7.holds Tryz.pinned (.plain (OpenSpec.ofChange topMapsFeedFrontierSpec)) topMapsFeedFrontierCard

/-- THE SECOND FORM's CARD OF 'ephemeratop.TopMapsFeedFrontier'. -/
def topMapsFeedFrontierUptoCard : Claim7 := { stood := { row := topMapsFeedFrontierUptoRow, standIns := [], harness := (true, "c01aba554f2a22e02a9da84a411922f37724ffce5030823eb92cd44bdb5e501a"), looks := false }, kinds := [], alts := [], laidByText := true, laidKinds := [.data, .pinned], laidTests := true, laidLooks := .later }
def TopMapsFeedFrontierUptoCardSaid : Prop := Claim7.holds Tryz.pinned (.plain (OpenSpec.upto topMapsFeedFrontierSpec)) topMapsFeedFrontierUptoCard
end Rows
end Go.Proofs.YtejiajdjgnnpdaaGreatDoor
