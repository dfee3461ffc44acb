/-
  CalmRuns: the row's closed facts.
-/
import Derived.Test.YtagncafalhdgcaaGreatDoorRows
import Derived.JoinedOf
namespace Go.Proofs.YtagncafalhdgcaaGreatDoor

set_option maxRecDepth 100000
set_option maxHeartbeats 100000000
theorem calmRuns_both {a b : Bool} (h : a = true) (k : b = true) : (a && b) = true := by rw [h, k]; rfl
theorem calmRuns_closed : joinedFacts Tryz.prog 5 Tryz.f5 Rows.calmRunsSpec Rows.calmRunsRow = true := by
  unfold joinedFacts
  repeat' (with_reducible refine calmRuns_both ?_ ?_)
  all_goals (as_aux_lemma => kernel_rfl)
end Go.Proofs.YtagncafalhdgcaaGreatDoor
