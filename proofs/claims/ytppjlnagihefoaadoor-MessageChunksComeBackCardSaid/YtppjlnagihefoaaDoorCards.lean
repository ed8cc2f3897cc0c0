/-
  DERIVED. GIVEN WITH THE SEED: THE CARDS: each row of YtppjlnagihefoaaDoorRows.lean that lists a variable, with what it lists TIED to the program's text (the seventh form; the later family's looks); each row that meets fmt, with fmt's text TOLD by the authors' own Lean function (tested against real Go, not proved from fmt's source: count such statements apart). THE CARD IS WHAT COUNTS. Prove the row's statement (the work); the ties are given (YtppjlnagihefoaaDoorTie.lean); close each card by the builder's one call (the guide's Derived/Test/ToyasCard.lean, 'card_holds'). Laid BY PROGRAM, IN A SANDBOX (cutbox-door.mjs). By AI agents, Wed Nov 11 2026. No macro, syntax, notation, axiom, sorry.
-/
import Derived.Test.YtppjlnagihefoaaDoorRows
import GoSem.ClaimSeven
namespace Go.Proofs.YtppjlnagihefoaaDoor
namespace Rows

/-- THE TIED CARD OF 'ephemeralaw2.MessageChunksComeBack'. -/
def messageChunksComeBackCard : Claim7 := { stood := { row := messageChunksComeBackRow, standIns := [], harness := (true, "4215c9342a37d87ee961d15988faa9eaeed75d1f9d6abae30ce753c7c6153736"), looks := false }, kinds := [], alts := [], laidByText := true, laidKinds := [.data, .data, .data], laidTests := true, laidLooks := .later }
def MessageChunksComeBackCardSaid : Prop := Claim7.holds Tryd.pinned (.plain (OpenSpec.ofChange messageChunksComeBackSpec)) messageChunksComeBackCard

/-- THE TIED CARD OF 'ephemeralaw2.MessageChunksMatchSpec'. -/
def messageChunksMatchSpecCard : Claim7 := { stood := { row := messageChunksMatchSpecRow, standIns := [], harness := (true, "4215c9342a37d87ee961d15988faa9eaeed75d1f9d6abae30ce753c7c6153736"), looks := false }, kinds := [], alts := [], laidByText := true, laidKinds := [.data, .data, .data], laidTests := true, laidLooks := .later }
def MessageChunksMatchSpecCardSaid : Prop := Claim7.holds Tryd.pinned (.plain (OpenSpec.ofChange messageChunksMatchSpecSpec)) messageChunksMatchSpecCard

/-- THE SECOND FORM's CARD OF 'ephemeralaw2.MessageChunksComeBack'. -/
def messageChunksComeBackUptoCard : Claim7 := { stood := { row := messageChunksComeBackUptoRow, standIns := [], harness := (true, "4215c9342a37d87ee961d15988faa9eaeed75d1f9d6abae30ce753c7c6153736"), looks := false }, kinds := [], alts := [], laidByText := true, laidKinds := [.data, .data, .data], laidTests := true, laidLooks := .later }
def MessageChunksComeBackUptoCardSaid : Prop := Claim7.holds Tryd.pinned (.plain (OpenSpec.upto messageChunksComeBackSpec)) messageChunksComeBackUptoCard

/-- THE SECOND FORM's CARD OF 'ephemeralaw2.MessageChunksMatchSpec'. -/
def messageChunksMatchSpecUptoCard : Claim7 := { stood := { row := messageChunksMatchSpecUptoRow, standIns := [], harness := (true, "4215c9342a37d87ee961d15988faa9eaeed75d1f9d6abae30ce753c7c6153736"), looks := false }, kinds := [], alts := [], laidByText := true, laidKinds := [.data, .data, .data], laidTests := true, laidLooks := .later }
def MessageChunksMatchSpecUptoCardSaid : Prop := Claim7.holds Tryd.pinned (.plain (OpenSpec.upto messageChunksMatchSpecSpec)) messageChunksMatchSpecUptoCard
end Rows
end Go.Proofs.YtppjlnagihefoaaDoor
