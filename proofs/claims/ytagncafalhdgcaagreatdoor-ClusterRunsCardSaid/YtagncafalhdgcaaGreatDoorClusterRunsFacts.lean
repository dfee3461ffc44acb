/-
  ClusterRuns: the row's closed facts.
-/
import Derived.Test.YtagncafalhdgcaaGreatDoorRows
import Derived.JoinedOf
namespace Go.Proofs.YtagncafalhdgcaaGreatDoor

set_option maxRecDepth 100000
set_option maxHeartbeats 100000000
theorem clusterRuns_both {a b : Bool} (h : a = true) (k : b = true) : (a && b) = true := by rw [h, k]; rfl
theorem clusterRuns_closed : joinedFacts Tryz.prog 4 Tryz.f4 Rows.clusterRunsSpec Rows.clusterRunsRow = true := by
  unfold joinedFacts
  repeat' (with_reducible refine clusterRuns_both ?_ ?_)
  all_goals (as_aux_lemma => kernel_rfl)
end Go.Proofs.YtagncafalhdgcaaGreatDoor
