/- three facts of the row's text, each checked by itself -/
import Derived.Test.YtdinkjgcpkcnaaaGreatDoorRows
import Derived.Test.YtdinkjgcpkcnaaaGreatDoorCards
import Derived.Test.YtdinkjgcpkcnaaaGreatDoorTie
import Derived.WalkKit
import Derived.ProofKit
import Derived.OpenShut
import Derived.SizedLaws
import Derived.JoinedCond
import Derived.Deep.CondSized
namespace Go.Proofs.YtdinkjgcpkcnaaaGreatDoor.lawMessageFollowsEnd
theorem mainW : Tryz.pinned.checked.prog.mainIs = some (true, "44e187975ae5b15d8a82fc008e597a8cd563e15f6e65abc2dd73942ad0b9ed51".toList) := by kernel_rfl
theorem goesW : false = Rows.messageFollowsEndRow.goesBy Tryz.pinned.checked.prog := by kernel_rfl
theorem wfW : OpenClaim.wfByText (OpenSpec.ofChange Rows.messageFollowsEndSpec) Rows.messageFollowsEndRow = true := by kernel_rfl
end Go.Proofs.YtdinkjgcpkcnaaaGreatDoor.lawMessageFollowsEnd
