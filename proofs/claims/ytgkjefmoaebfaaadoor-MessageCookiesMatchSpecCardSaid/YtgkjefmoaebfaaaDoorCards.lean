/-
  DERIVED. GIVEN WITH THE SEED: THE CARDS: each row of YtgkjefmoaebfaaaDoorRows.lean that lists a variable, with what it lists TIED to the program's text (the seventh form; the later family's looks); each row that meets fmt, with fmt's text TOLD by the authors' own Lean function (tested against real Go, not proved from fmt's source: count such statements apart). THE CARD IS WHAT COUNTS. Prove the row's statement (the work); the ties are given (YtgkjefmoaebfaaaDoorTie.lean); close each card by the builder's one call (the guide's Derived/Test/ToyasCard.lean, 'card_holds'). Laid BY PROGRAM, IN A SANDBOX (cutbox-door.mjs). By AI agents, Wed Nov 11 2026. No macro, syntax, notation, axiom, sorry.
-/
import Derived.Test.YtgkjefmoaebfaaaDoorRows
import GoSem.ClaimSeven
namespace Go.Proofs.YtgkjefmoaebfaaaDoor
namespace Rows

/-- THE TIED CARD OF 'ephemeralaw2.MessageCookiesMatchSpec'. -/
def messageCookiesMatchSpecCard : Claim7 := { stood := { row := messageCookiesMatchSpecRow, standIns := [], harness := (true, "730b3ed310b18f3bba7bc952a7ee6b1f74f19633dc4fcef7f3db30636984b627"), looks := false }, kinds := [], alts := [], laidByText := true, laidKinds := [.data, .data, .data, .data, .pinned], laidTests := true, laidLooks := .later }
def MessageCookiesMatchSpecCardSaid : Prop := Claim7.holds Tryd.pinned (.plain (OpenSpec.ofChange messageCookiesMatchSpecSpec)) messageCookiesMatchSpecCard

/-- THE SECOND FORM's CARD OF 'ephemeralaw2.MessageCookiesMatchSpec'. -/
def messageCookiesMatchSpecUptoCard : Claim7 := { stood := { row := messageCookiesMatchSpecUptoRow, standIns := [], harness := (true, "730b3ed310b18f3bba7bc952a7ee6b1f74f19633dc4fcef7f3db30636984b627"), looks := false }, kinds := [], alts := [], laidByText := true, laidKinds := [.data, .data, .data, .data, .pinned], laidTests := true, laidLooks := .later }
def MessageCookiesMatchSpecUptoCardSaid : Prop := Claim7.holds Tryd.pinned (.plain (OpenSpec.upto messageCookiesMatchSpecSpec)) messageCookiesMatchSpecUptoCard
end Rows
end Go.Proofs.YtgkjefmoaebfaaaDoor
