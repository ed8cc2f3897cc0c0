/- the row's closed facts -/
import Derived.Test.YtakfogogdklefaaDoorRows
import Derived.WalkKit
import Derived.ProofKit
import Derived.OpenShut
import Derived.SizedLaws
import Derived.JoinedCond
import Derived.Deep.CondSized
namespace Go.Proofs.YtakfogogdklefaaDoor.lawRobotsSplitListsHoldAll
set_option maxHeartbeats 4000000 in
/-- the row's closed facts, in parts: one check of them all wants more memory than a process may take -/
theorem facts : joinedFacts Tryd.pinned.checked.prog 3 Tryd.f3 (OpenSpec.ofChange Rows.robotsSplitListsHoldAllSpec).bare Rows.robotsSplitListsHoldAllRow = true := by
  unfold joinedFacts
  iterate 14 (with_reducible refine (Bool.and_eq_true_iff).2 ⟨?_, ?_⟩)
  all_goals decide +kernel
end Go.Proofs.YtakfogogdklefaaDoor.lawRobotsSplitListsHoldAll
