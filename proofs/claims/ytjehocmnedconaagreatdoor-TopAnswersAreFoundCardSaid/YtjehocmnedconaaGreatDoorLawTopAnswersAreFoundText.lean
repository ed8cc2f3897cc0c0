/- three facts of the row's text, each checked by itself -/
import Derived.Test.YtjehocmnedconaaGreatDoorRows
import Derived.Test.YtjehocmnedconaaGreatDoorCards
import Derived.Test.YtjehocmnedconaaGreatDoorTie
import Derived.WalkKit
import Derived.ProofKit
import Derived.OpenShut
import Derived.SizedLaws
import Derived.JoinedCond
import Derived.Deep.CondSized
namespace Go.Proofs.YtjehocmnedconaaGreatDoor.lawTopAnswersAreFound
theorem mainW : Tryz.pinned.checked.prog.mainIs = some (true, "59a0808458ce4d122276c1065305300ea82980f7c94b19405ee7cefd43c1b555".toList) := by kernel_rfl
theorem goesW : false = Rows.topAnswersAreFoundRow.goesBy Tryz.pinned.checked.prog := by kernel_rfl
theorem wfW : OpenClaim.wfByText (OpenSpec.ofChange Rows.topAnswersAreFoundSpec) Rows.topAnswersAreFoundRow = true := by kernel_rfl
end Go.Proofs.YtjehocmnedconaaGreatDoor.lawTopAnswersAreFound
