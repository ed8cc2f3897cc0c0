/- three facts of the row's text, each checked by itself -/
import Derived.Test.YtakfogogdklefaaGreatDoorRows
import Derived.Test.YtakfogogdklefaaGreatDoorCards
import Derived.Test.YtakfogogdklefaaGreatDoorTie
import Derived.WalkKit
import Derived.ProofKit
import Derived.OpenShut
import Derived.SizedLaws
import Derived.JoinedCond
import Derived.Deep.CondSized
namespace Go.Proofs.YtakfogogdklefaaGreatDoor.lawRobotsListsMatchSpec
theorem mainW : Tryz.pinned.checked.prog.mainIs = some (true, "4a4dde46eab177be6f11ef99d91da1af3784935bf8b25c58e4ed169464edc9fc".toList) := by kernel_rfl
theorem goesW : false = Rows.robotsListsMatchSpecRow.goesBy Tryz.pinned.checked.prog := by kernel_rfl
theorem wfW : OpenClaim.wfByText (OpenSpec.ofChange Rows.robotsListsMatchSpecSpec) Rows.robotsListsMatchSpecRow = true := by kernel_rfl
end Go.Proofs.YtakfogogdklefaaGreatDoor.lawRobotsListsMatchSpec
