/- three facts of the row's text, each checked by itself -/
import Derived.Test.YtejiajdjgnnpdaaGreatDoorRows
import Derived.Test.YtejiajdjgnnpdaaGreatDoorCards
import Derived.Test.YtejiajdjgnnpdaaGreatDoorTie
import Derived.WalkKit
import Derived.ProofKit
import Derived.OpenShut
import Derived.SizedLaws
import Derived.JoinedCond
import Derived.Deep.CondSized
namespace Go.Proofs.YtejiajdjgnnpdaaGreatDoor.lawTopMapsFeedFrontier
theorem mainW : Tryz.pinned.checked.prog.mainIs = some (true, "c01aba554f2a22e02a9da84a411922f37724ffce5030823eb92cd44bdb5e501a".toList) := by kernel_rfl
theorem goesW : false = Rows.topMapsFeedFrontierRow.goesBy Tryz.pinned.checked.prog := by kernel_rfl
theorem wfW : OpenClaim.wfByText (OpenSpec.ofChange Rows.topMapsFeedFrontierSpec) Rows.topMapsFeedFrontierRow = true := by kernel_rfl
end Go.Proofs.YtejiajdjgnnpdaaGreatDoor.lawTopMapsFeedFrontier
