/- three facts of the row's text, each checked by itself -/
import Derived.Test.YtgfejmodfapeoaaGreatDoorRows
import Derived.Test.YtgfejmodfapeoaaGreatDoorCards
import Derived.Test.YtgfejmodfapeoaaGreatDoorTie
import Derived.WalkKit
import Derived.ProofKit
import Derived.OpenShut
import Derived.SizedLaws
import Derived.JoinedCond
import Derived.Deep.CondSized
namespace Go.Proofs.YtgfejmodfapeoaaGreatDoor.lawTopVersionsAreRecords
theorem mainW : Tryz.pinned.checked.prog.mainIs = some (true, "117f402dba62688123f93938471c306fa5dc8c621df4f404ca1b195798c4d459".toList) := by kernel_rfl
theorem goesW : false = Rows.topVersionsAreRecordsRow.goesBy Tryz.pinned.checked.prog := by kernel_rfl
theorem wfW : OpenClaim.wfByText (OpenSpec.ofChange Rows.topVersionsAreRecordsSpec) Rows.topVersionsAreRecordsRow = true := by kernel_rfl
end Go.Proofs.YtgfejmodfapeoaaGreatDoor.lawTopVersionsAreRecords
