/- three facts of the row's text, each checked by itself -/
import Derived.Test.YtmnokccdnjokoaaDoorRows
import Derived.Test.YtmnokccdnjokoaaDoorCards
import Derived.Test.YtmnokccdnjokoaaDoorTie
import Derived.WalkKit
import Derived.ProofKit
import Derived.OpenShut
import Derived.SizedLaws
import Derived.JoinedCond
import Derived.Deep.CondSized
namespace Go.Proofs.YtmnokccdnjokoaaDoor.lawRecordDividedIsAll
theorem mainW : Tryd.pinned.checked.prog.mainIs = some (true, "1e8385b8776bf648f1f1c5903eaa14eeead6bef9d0dcbde099970d615db509d5".toList) := by kernel_rfl
theorem goesW : false = Rows.recordDividedIsAllRow.goesBy Tryd.pinned.checked.prog := by kernel_rfl
theorem wfW : OpenClaim.wfByText (OpenSpec.ofChange Rows.recordDividedIsAllSpec) Rows.recordDividedIsAllRow = true := by kernel_rfl
end Go.Proofs.YtmnokccdnjokoaaDoor.lawRecordDividedIsAll
