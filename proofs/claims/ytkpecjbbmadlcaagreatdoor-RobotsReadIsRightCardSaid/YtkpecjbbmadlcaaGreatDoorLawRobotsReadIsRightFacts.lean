/- the row's closed facts -/
import Derived.Test.YtkpecjbbmadlcaaGreatDoorRows
import Derived.WalkKit
import Derived.ProofKit
import Derived.OpenShut
import Derived.SizedLaws
import Derived.JoinedCond
import Derived.Deep.CondSized
namespace Go.Proofs.YtkpecjbbmadlcaaGreatDoor.lawRobotsReadIsRight
set_option maxHeartbeats 4000000 in
/-- the row's closed facts, in parts: one check of them all wants more memory than a process may take -/
theorem facts : joinedFacts Tryz.pinned.checked.prog 4 Tryz.f4 (OpenSpec.ofChange Rows.robotsReadIsRightSpec).bare Rows.robotsReadIsRightRow = true := by
  unfold joinedFacts
  iterate 14 (with_reducible refine (Bool.and_eq_true_iff).2 ⟨?_, ?_⟩)
  all_goals decide +kernel
end Go.Proofs.YtkpecjbbmadlcaaGreatDoor.lawRobotsReadIsRight
