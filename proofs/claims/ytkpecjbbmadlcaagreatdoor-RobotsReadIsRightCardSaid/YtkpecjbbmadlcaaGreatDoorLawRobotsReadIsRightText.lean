/- three facts of the row's text, each checked by itself -/
import Derived.Test.YtkpecjbbmadlcaaGreatDoorRows
import Derived.Test.YtkpecjbbmadlcaaGreatDoorCards
import Derived.Test.YtkpecjbbmadlcaaGreatDoorTie
import Derived.WalkKit
import Derived.ProofKit
import Derived.OpenShut
import Derived.SizedLaws
import Derived.JoinedCond
import Derived.Deep.CondSized
namespace Go.Proofs.YtkpecjbbmadlcaaGreatDoor.lawRobotsReadIsRight
theorem mainW : Tryz.pinned.checked.prog.mainIs = some (true, "25a2221165e3ac008c5a381440b6267852a5a29c3c48b9587c72d4275035b032".toList) := by kernel_rfl
theorem goesW : false = Rows.robotsReadIsRightRow.goesBy Tryz.pinned.checked.prog := by kernel_rfl
theorem wfW : OpenClaim.wfByText (OpenSpec.ofChange Rows.robotsReadIsRightSpec) Rows.robotsReadIsRightRow = true := by kernel_rfl
end Go.Proofs.YtkpecjbbmadlcaaGreatDoor.lawRobotsReadIsRight
