/- three facts of the row's text, each checked by itself -/
import Derived.Test.YtcbkpkcmbijipaaGreatDoorRows
import Derived.Test.YtcbkpkcmbijipaaGreatDoorCards
import Derived.Test.YtcbkpkcmbijipaaGreatDoorTie
import Derived.WalkKit
import Derived.ProofKit
import Derived.OpenShut
import Derived.SizedLaws
import Derived.JoinedCond
import Derived.Deep.CondSized
namespace Go.Proofs.YtcbkpkcmbijipaaGreatDoor.lawRecordRevisitsShow
theorem mainW : Tryz.pinned.checked.prog.mainIs = some (true, "b9c1eea98b14ee3e145f46e4824ace35b06d59658d26dc3a558b2f75b4ec5853".toList) := by kernel_rfl
theorem goesW : false = Rows.recordRevisitsShowRow.goesBy Tryz.pinned.checked.prog := by kernel_rfl
theorem wfW : OpenClaim.wfByText (OpenSpec.ofChange Rows.recordRevisitsShowSpec) Rows.recordRevisitsShowRow = true := by kernel_rfl
end Go.Proofs.YtcbkpkcmbijipaaGreatDoor.lawRecordRevisitsShow
