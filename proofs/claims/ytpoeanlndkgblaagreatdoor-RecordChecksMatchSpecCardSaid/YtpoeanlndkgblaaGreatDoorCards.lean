/-
  DERIVED. GIVEN WITH THE SEED: THE CARDS: each row of YtpoeanlndkgblaaGreatDoorRows.lean that lists a variable, with what it lists TIED to the program's text (the seventh form; the later family's looks); each row that meets fmt, with fmt's text TOLD by the authors' own Lean function (tested against real Go, not proved from fmt's source: count such statements apart). THE CARD IS WHAT COUNTS. Prove the row's statement (the work); the ties are given (YtpoeanlndkgblaaGreatDoorTie.lean); close each card by the builder's one call (the guide's Derived/Test/ToyasCard.lean, 'card_holds'). Laid BY PROGRAM, IN A SANDBOX (cutbox-door.mjs). By AI agents, Wed Nov 11 2026. No macro, syntax, notation, axiom, sorry.
-/
import Derived.Test.YtpoeanlndkgblaaGreatDoorRows
import GoSem.ClaimSeven
namespace Go.Proofs.YtpoeanlndkgblaaGreatDoor
namespace Rows

/-- THE TIED CARD OF 'ephemeralaw6.RecordChecksMatchSpec'. -/
def recordChecksMatchSpecCard : Claim7 := { stood := { row := recordChecksMatchSpecRow, standIns := [], harness := (true, "695e3f4b47137c7eef81fa922a351a9282a72ed598e07254b8a32f947517e115"), looks := false }, kinds := [], alts := [], laidByText := true, laidKinds := [.data, .data, .data, .data, .pinned], laidTests := true, laidLooks := .later }
def RecordChecksMatchSpecCardSaid : Prop := Claim7.holds Tryz.pinned (.plain (OpenSpec.ofChange recordChecksMatchSpecSpec)) recordChecksMatchSpecCard

/-- THE SECOND FORM's CARD OF 'ephemeralaw6.RecordChecksMatchSpec'. -/
def recordChecksMatchSpecUptoCard : Claim7 := { stood := { row := recordChecksMatchSpecUptoRow, standIns := [], harness := (true, "695e3f4b47137c7eef81fa922a351a9282a72ed598e07254b8a32f947517e115"), looks := false }, kinds := [], alts := [], laidByText := true, laidKinds := [.data, .data, .data, .data, .pinned], laidTests := true, laidLooks := .later }
def RecordChecksMatchSpecUptoCardSaid : Prop := Claim7.holds Tryz.pinned (.plain (OpenSpec.upto recordChecksMatchSpecSpec)) recordChecksMatchSpecUptoCard
end Rows
end Go.Proofs.YtpoeanlndkgblaaGreatDoor
