/-
  What the quick machine says holds of every run.
-/
import Derived.Test.YtcdegmbabbgiaaaAmQ5
import Derived.Test.YtcdegmbabbgiaaaAmInsert4
namespace Go.AM

theorem callsQ_true {P : Program} {pl : Plans} (hp : PlansOK P pl) {k : Nat} {f : FuncId} (h : saysQ P pl k f = true) (W : World) :
    Calls P f #[] W fun e W' => e = .returned (.bool true) ∧ RowKit.Below W.heap.size W W' :=
  calls_true hp (saysQ_true h) W
theorem tabOK_append {P : Program} {a b : PlTab} (h : tabOK P a = true) (k : tabOK P b = true) : tabOK P (a ++ b) = true := by
  unfold tabOK at *
  rw [List.all_append, h, k]; rfl
end Go.AM
