/- three facts of the row's text, each checked by itself -/
import Derived.Test.YtmnokccdnjokoaaGreatDoorRows
import Derived.Test.YtmnokccdnjokoaaGreatDoorCards
import Derived.Test.YtmnokccdnjokoaaGreatDoorTie
import Derived.WalkKit
import Derived.ProofKit
import Derived.OpenShut
import Derived.SizedLaws
import Derived.JoinedCond
import Derived.Deep.CondSized
namespace Go.Proofs.YtmnokccdnjokoaaGreatDoor.lawRecordDividedMatchSpec
theorem mainW : Tryz.pinned.checked.prog.mainIs = some (true, "4fd02b9dbc9dbcd3e17c2fec04ada5ad7cdb754d43fb5ba9eeaf7cb4162a9654".toList) := by kernel_rfl
theorem goesW : false = Rows.recordDividedMatchSpecRow.goesBy Tryz.pinned.checked.prog := by kernel_rfl
theorem wfW : OpenClaim.wfByText (OpenSpec.ofChange Rows.recordDividedMatchSpecSpec) Rows.recordDividedMatchSpecRow = true := by kernel_rfl
end Go.Proofs.YtmnokccdnjokoaaGreatDoor.lawRecordDividedMatchSpec
