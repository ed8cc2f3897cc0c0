/- the row's closed facts -/
import Derived.Test.YtjehocmnedconaaGreatDoorRows
import Derived.WalkKit
import Derived.ProofKit
import Derived.OpenShut
import Derived.SizedLaws
import Derived.JoinedCond
import Derived.Deep.CondSized
namespace Go.Proofs.YtjehocmnedconaaGreatDoor.lawTopAnswersAreFound
set_option maxHeartbeats 4000000 in
/-- the row's closed facts, in parts: one check of them all wants more memory than a process may take -/
theorem facts : joinedFacts Tryz.pinned.checked.prog 3 Tryz.f3 (OpenSpec.ofChange Rows.topAnswersAreFoundSpec).bare Rows.topAnswersAreFoundRow = true := by
  unfold joinedFacts
  iterate 14 (with_reducible refine (Bool.and_eq_true_iff).2 ⟨?_, ?_⟩)
  all_goals decide +kernel
end Go.Proofs.YtjehocmnedconaaGreatDoor.lawTopAnswersAreFound
