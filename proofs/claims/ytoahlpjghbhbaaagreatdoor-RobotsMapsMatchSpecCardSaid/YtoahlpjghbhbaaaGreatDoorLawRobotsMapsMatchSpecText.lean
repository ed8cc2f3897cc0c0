/- three facts of the row's text, each checked by itself -/
import Derived.Test.YtoahlpjghbhbaaaGreatDoorRows
import Derived.Test.YtoahlpjghbhbaaaGreatDoorCards
import Derived.Test.YtoahlpjghbhbaaaGreatDoorTie
import Derived.WalkKit
import Derived.ProofKit
import Derived.OpenShut
import Derived.SizedLaws
import Derived.JoinedCond
import Derived.Deep.CondSized
namespace Go.Proofs.YtoahlpjghbhbaaaGreatDoor.lawRobotsMapsMatchSpec
theorem mainW : Tryz.pinned.checked.prog.mainIs = some (true, "5d7e6df1a22ee70d20b789d0ef202d5ee7236a88630a90204538b0c0dbdc35ef".toList) := by kernel_rfl
theorem goesW : false = Rows.robotsMapsMatchSpecRow.goesBy Tryz.pinned.checked.prog := by kernel_rfl
theorem wfW : OpenClaim.wfByText (OpenSpec.ofChange Rows.robotsMapsMatchSpecSpec) Rows.robotsMapsMatchSpecRow = true := by kernel_rfl
end Go.Proofs.YtoahlpjghbhbaaaGreatDoor.lawRobotsMapsMatchSpec
