/- three facts of the row's text, each checked by itself -/
import Derived.Test.YtfbbeehlkemgnaaDoorRows
import Derived.Test.YtfbbeehlkemgnaaDoorCards
import Derived.Test.YtfbbeehlkemgnaaDoorTie
import Derived.WalkKit
import Derived.ProofKit
import Derived.OpenShut
import Derived.SizedLaws
import Derived.JoinedCond
import Derived.Deep.CondSized
namespace Go.Proofs.YtfbbeehlkemgnaaDoor.lawTopRevisitsAreEqualBlocks
theorem mainW : Tryd.pinned.checked.prog.mainIs = some (true, "9afaa48d791fccb4c3e805f1aaf8ef242a6968567f463c770d3cde9b3f73b77f".toList) := by kernel_rfl
theorem goesW : false = Rows.topRevisitsAreEqualBlocksRow.goesBy Tryd.pinned.checked.prog := by kernel_rfl
theorem wfW : OpenClaim.wfByText (OpenSpec.ofChange Rows.topRevisitsAreEqualBlocksSpec) Rows.topRevisitsAreEqualBlocksRow = true := by kernel_rfl
end Go.Proofs.YtfbbeehlkemgnaaDoor.lawTopRevisitsAreEqualBlocks
