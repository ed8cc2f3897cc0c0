/- three facts of the row's text, each checked by itself -/
import Derived.Test.YtggipkjoemdbkaaGreatDoorRows
import Derived.Test.YtggipkjoemdbkaaGreatDoorCards
import Derived.Test.YtggipkjoemdbkaaGreatDoorTie
import Derived.WalkKit
import Derived.ProofKit
import Derived.OpenShut
import Derived.SizedLaws
import Derived.JoinedCond
import Derived.Deep.CondSized
namespace Go.Proofs.YtggipkjoemdbkaaGreatDoor.lawRobotsLaterReadingsDoNotMatter
theorem mainW : Tryz.pinned.checked.prog.mainIs = some (true, "8f9a7945824b0549395b63284bcdad46ef6f2cc4653a72fc14e631b0987ad651".toList) := by kernel_rfl
theorem goesW : false = Rows.robotsLaterReadingsDoNotMatterRow.goesBy Tryz.pinned.checked.prog := by kernel_rfl
theorem wfW : OpenClaim.wfByText (OpenSpec.ofChange Rows.robotsLaterReadingsDoNotMatterSpec) Rows.robotsLaterReadingsDoNotMatterRow = true := by kernel_rfl
end Go.Proofs.YtggipkjoemdbkaaGreatDoor.lawRobotsLaterReadingsDoNotMatter
