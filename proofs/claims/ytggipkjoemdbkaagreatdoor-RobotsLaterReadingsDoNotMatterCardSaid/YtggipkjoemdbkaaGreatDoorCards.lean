/-
  DERIVED. GIVEN WITH THE SEED: THE CARDS: each row of YtggipkjoemdbkaaGreatDoorRows.lean that lists a variable, with what it lists TIED to the program's text (the seventh form; the later family's looks); each row that meets fmt, with fmt's text TOLD by the authors' own Lean function (tested against real Go, not proved from fmt's source: count such statements apart). THE CARD IS WHAT COUNTS. Prove the row's statement (the work); the ties are given (YtggipkjoemdbkaaGreatDoorTie.lean); close each card by the builder's one call (the guide's Derived/Test/ToyasCard.lean, 'card_holds'). Laid BY PROGRAM, IN A SANDBOX (cutbox-door.mjs). By AI agents, Wed Nov 11 2026. No macro, syntax, notation, axiom, sorry.
-/
import Derived.Test.YtggipkjoemdbkaaGreatDoorRows
import GoSem.ClaimSeven
namespace Go.Proofs.YtggipkjoemdbkaaGreatDoor
namespace Rows

/-- THE TIED CARD OF 'ephemeralaw4.RobotsStandingMatchesSpec'. -/
def robotsStandingMatchesSpecCard : Claim7 := { stood := { row := robotsStandingMatchesSpecRow, standIns := [], harness := (true, "8f9a7945824b0549395b63284bcdad46ef6f2cc4653a72fc14e631b0987ad651"), looks := true }, kinds := [], alts := [], laidByText := true, laidKinds := [.data, .data, .data, .data, .sentinel, .sentinel, .pinned], laidTests := true, laidLooks := .later }
def RobotsStandingMatchesSpecCardSaid : Prop := Claim7.holds Tryz.pinned (.plain (OpenSpec.ofChange robotsStandingMatchesSpecSpec)) robotsStandingMatchesSpecCard

/-- THE TIED CARD OF 'ephemeralaw4.RobotsRulesMatchSpec'. -/
def robotsRulesMatchSpecCard : Claim7 := { stood := { row := robotsRulesMatchSpecRow, standIns := [], harness := (true, "8f9a7945824b0549395b63284bcdad46ef6f2cc4653a72fc14e631b0987ad651"), looks := true }, kinds := [], alts := [], laidByText := true, laidKinds := [.data, .data, .data, .data, .sentinel, .sentinel, .pinned], laidTests := true, laidLooks := .later }
def RobotsRulesMatchSpecCardSaid : Prop := Claim7.holds Tryz.pinned (.plain (OpenSpec.ofChange robotsRulesMatchSpecSpec)) robotsRulesMatchSpecCard

/-- THE TIED CARD OF 'ephemeralaw4.RobotsPermitsMatchSpec'. -/
def robotsPermitsMatchSpecCard : Claim7 := { stood := { row := robotsPermitsMatchSpecRow, standIns := [], harness := (true, "8f9a7945824b0549395b63284bcdad46ef6f2cc4653a72fc14e631b0987ad651"), looks := true }, kinds := [], alts := [], laidByText := true, laidKinds := [.data, .data, .data, .data, .sentinel, .sentinel, .pinned], laidTests := true, laidLooks := .later }
def RobotsPermitsMatchSpecCardSaid : Prop := Claim7.holds Tryz.pinned (.plain (OpenSpec.ofChange robotsPermitsMatchSpecSpec)) robotsPermitsMatchSpecCard

/-- THE TIED CARD OF 'ephemeralaw4.RobotsLaterReadingsDoNotMatter'. -/
def robotsLaterReadingsDoNotMatterCard : Claim7 := { stood := { row := robotsLaterReadingsDoNotMatterRow, standIns := [], harness := (true, "8f9a7945824b0549395b63284bcdad46ef6f2cc4653a72fc14e631b0987ad651"), looks := true }, kinds := [], alts := [], laidByText := true, laidKinds := [.data, .data, .data, .data, .sentinel, .sentinel, .pinned], laidTests := true, laidLooks := .later }
def RobotsLaterReadingsDoNotMatterCardSaid : Prop := Claim7.holds Tryz.pinned (.plain (OpenSpec.ofChange robotsLaterReadingsDoNotMatterSpec)) robotsLaterReadingsDoNotMatterCard

/-- THE TIED CARD OF 'ephemeralaw4.RobotsPermitsAtMatchesSpec'. -/
def robotsPermitsAtMatchesSpecCard : Claim7 := { stood := { row := robotsPermitsAtMatchesSpecRow, standIns := [], harness := (true, "8f9a7945824b0549395b63284bcdad46ef6f2cc4653a72fc14e631b0987ad651"), looks := true }, kinds := [], alts := [], laidByText := true, laidKinds := [.data, .data, .data, .data, .sentinel, .sentinel, .pinned], laidTests := true, laidLooks := .later }
def RobotsPermitsAtMatchesSpecCardSaid : Prop := Claim7.holds Tryz.pinned (.plain (OpenSpec.ofChange robotsPermitsAtMatchesSpecSpec)) robotsPermitsAtMatchesSpecCard

/-- THE SECOND FORM's CARD OF 'ephemeralaw4.RobotsStandingMatchesSpec'. -/
def robotsStandingMatchesSpecUptoCard : Claim7 := { stood := { row := robotsStandingMatchesSpecUptoRow, standIns := [], harness := (true, "8f9a7945824b0549395b63284bcdad46ef6f2cc4653a72fc14e631b0987ad651"), looks := true }, kinds := [], alts := [], laidByText := true, laidKinds := [.data, .data, .data, .data, .sentinel, .sentinel, .pinned], laidTests := true, laidLooks := .later }
def RobotsStandingMatchesSpecUptoCardSaid : Prop := Claim7.holds Tryz.pinned (.plain (OpenSpec.upto robotsStandingMatchesSpecSpec)) robotsStandingMatchesSpecUptoCard

/-- THE SECOND FORM's CARD OF 'ephemeralaw4.RobotsRulesMatchSpec'. -/
def robotsRulesMatchSpecUptoCard : Claim7 := { stood := { row := robotsRulesMatchSpecUptoRow, standIns := [], harness := (true, "8f9a7945824b0549395b63284bcdad46ef6f2cc4653a72fc14e631b0987ad651"), looks := true }, kinds := [], alts := [], laidByText := true, laidKinds := [.data, .data, .data, .data, .sentinel, .sentinel, .pinned], laidTests := true, laidLooks := .later }
def RobotsRulesMatchSpecUptoCardSaid : Prop := Claim7.holds Tryz.pinned (.plain (OpenSpec.upto robotsRulesMatchSpecSpec)) robotsRulesMatchSpecUptoCard

/-- THE SECOND FORM's CARD OF 'ephemeralaw4.RobotsPermitsMatchSpec'. -/
def robotsPermitsMatchSpecUptoCard : Claim7 := { stood := { row := robotsPermitsMatchSpecUptoRow, standIns := [], harness := (true, "8f9a7945824b0549395b63284bcdad46ef6f2cc4653a72fc14e631b0987ad651"), looks := true }, kinds := [], alts := [], laidByText := true, laidKinds := [.data, .data, .data, .data, .sentinel, .sentinel, .pinned], laidTests := true, laidLooks := .later }
def RobotsPermitsMatchSpecUptoCardSaid : Prop := Claim7.holds Tryz.pinned (.plain (OpenSpec.upto robotsPermitsMatchSpecSpec)) robotsPermitsMatchSpecUptoCard

/-- THE SECOND FORM's CARD OF 'ephemeralaw4.RobotsLaterReadingsDoNotMatter'. -/
def robotsLaterReadingsDoNotMatterUptoCard : Claim7 := { stood := { row := robotsLaterReadingsDoNotMatterUptoRow, standIns := [], harness := (true, "8f9a7945824b0549395b63284bcdad46ef6f2cc4653a72fc14e631b0987ad651"), looks := true }, kinds := [], alts := [], laidByText := true, laidKinds := [.data, .data, .data, .data, .sentinel, .sentinel, .pinned], laidTests := true, laidLooks := .later }
def RobotsLaterReadingsDoNotMatterUptoCardSaid : Prop := Claim7.holds Tryz.pinned (.plain (OpenSpec.upto robotsLaterReadingsDoNotMatterSpec)) robotsLaterReadingsDoNotMatterUptoCard

/-- THE SECOND FORM's CARD OF 'ephemeralaw4.RobotsPermitsAtMatchesSpec'. -/
def robotsPermitsAtMatchesSpecUptoCard : Claim7 := { stood := { row := robotsPermitsAtMatchesSpecUptoRow, standIns := [], harness := (true, "8f9a7945824b0549395b63284bcdad46ef6f2cc4653a72fc14e631b0987ad651"), looks := true }, kinds := [], alts := [], laidByText := true, laidKinds := [.data, .data, .data, .data, .sentinel, .sentinel, .pinned], laidTests := true, laidLooks := .later }
def RobotsPermitsAtMatchesSpecUptoCardSaid : Prop := Claim7.holds Tryz.pinned (.plain (OpenSpec.upto robotsPermitsAtMatchesSpecSpec)) robotsPermitsAtMatchesSpecUptoCard
end Rows
end Go.Proofs.YtggipkjoemdbkaaGreatDoor
