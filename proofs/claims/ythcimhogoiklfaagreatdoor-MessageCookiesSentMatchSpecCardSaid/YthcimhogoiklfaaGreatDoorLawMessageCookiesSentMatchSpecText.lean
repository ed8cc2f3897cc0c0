/- three facts of the row's text, each checked by itself -/
import Derived.Test.YthcimhogoiklfaaGreatDoorRows
import Derived.Test.YthcimhogoiklfaaGreatDoorCards
import Derived.Test.YthcimhogoiklfaaGreatDoorTie
import Derived.WalkKit
import Derived.ProofKit
import Derived.OpenShut
import Derived.SizedLaws
import Derived.JoinedCond
import Derived.Deep.CondSized
namespace Go.Proofs.YthcimhogoiklfaaGreatDoor.lawMessageCookiesSentMatchSpec
theorem mainW : Tryz.pinned.checked.prog.mainIs = some (true, "05a87f85c0f80c49bc033f823ac36206e45a20d856f8b15b73cea7db878d385d".toList) := by kernel_rfl
theorem goesW : false = Rows.messageCookiesSentMatchSpecRow.goesBy Tryz.pinned.checked.prog := by kernel_rfl
theorem wfW : OpenClaim.wfByText (OpenSpec.ofChange Rows.messageCookiesSentMatchSpecSpec) Rows.messageCookiesSentMatchSpecRow = true := by kernel_rfl
end Go.Proofs.YthcimhogoiklfaaGreatDoor.lawMessageCookiesSentMatchSpec
