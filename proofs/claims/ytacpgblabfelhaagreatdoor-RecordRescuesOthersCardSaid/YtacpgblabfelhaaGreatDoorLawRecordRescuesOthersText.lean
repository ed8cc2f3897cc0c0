/- three facts of the row's text, each checked by itself -/
import Derived.Test.YtacpgblabfelhaaGreatDoorRows
import Derived.Test.YtacpgblabfelhaaGreatDoorCards
import Derived.Test.YtacpgblabfelhaaGreatDoorTie
import Derived.WalkKit
import Derived.ProofKit
import Derived.OpenShut
import Derived.SizedLaws
import Derived.JoinedCond
import Derived.Deep.CondSized
namespace Go.Proofs.YtacpgblabfelhaaGreatDoor.lawRecordRescuesOthers
theorem mainW : Tryz.pinned.checked.prog.mainIs = some (true, "c79744028eaabeaa0347bd7f2d343b204c05b478f14f4c9b6f3082e77985f8c0".toList) := by kernel_rfl
theorem goesW : false = Rows.recordRescuesOthersRow.goesBy Tryz.pinned.checked.prog := by kernel_rfl
theorem wfW : OpenClaim.wfByText (OpenSpec.ofChange Rows.recordRescuesOthersSpec) Rows.recordRescuesOthersRow = true := by kernel_rfl
end Go.Proofs.YtacpgblabfelhaaGreatDoor.lawRecordRescuesOthers
