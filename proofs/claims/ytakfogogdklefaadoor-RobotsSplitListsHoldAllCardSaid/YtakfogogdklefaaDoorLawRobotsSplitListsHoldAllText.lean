/- three facts of the row's text, each checked by itself -/
import Derived.Test.YtakfogogdklefaaDoorRows
import Derived.Test.YtakfogogdklefaaDoorCards
import Derived.Test.YtakfogogdklefaaDoorTie
import Derived.WalkKit
import Derived.ProofKit
import Derived.OpenShut
import Derived.SizedLaws
import Derived.JoinedCond
import Derived.Deep.CondSized
namespace Go.Proofs.YtakfogogdklefaaDoor.lawRobotsSplitListsHoldAll
theorem mainW : Tryd.pinned.checked.prog.mainIs = some (true, "c31fb8e76ca50c1d0c631878e3ea5adca5eda39798fe58aca4383e5e1f784ab4".toList) := by kernel_rfl
theorem goesW : false = Rows.robotsSplitListsHoldAllRow.goesBy Tryd.pinned.checked.prog := by kernel_rfl
theorem wfW : OpenClaim.wfByText (OpenSpec.ofChange Rows.robotsSplitListsHoldAllSpec) Rows.robotsSplitListsHoldAllRow = true := by kernel_rfl
end Go.Proofs.YtakfogogdklefaaDoor.lawRobotsSplitListsHoldAll
