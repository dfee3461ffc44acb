/-
  RaftElects at some residues of its argument: it says true.
-/
import Derived.Test.YtcdegmbabbgiaaaElectsTab
namespace Go.Proofs.Ytcdegmbabbgiaaa
open Go.RowKit Go.AM

set_option maxRecDepth 100000
theorem elects16 : saysA Try.prog (plansOf Try.prog electsSp raftElectsTab) 1000 4 [.res 31 16] = true := by kernel_rfl
theorem elects17 : saysA Try.prog (plansOf Try.prog electsSp raftElectsTab) 1000 4 [.res 31 17] = true := by kernel_rfl
theorem elects18 : saysA Try.prog (plansOf Try.prog electsSp raftElectsTab) 1000 4 [.res 31 18] = true := by kernel_rfl
theorem elects19 : saysA Try.prog (plansOf Try.prog electsSp raftElectsTab) 1000 4 [.res 31 19] = true := by kernel_rfl
theorem elects20 : saysA Try.prog (plansOf Try.prog electsSp raftElectsTab) 1000 4 [.res 31 20] = true := by kernel_rfl
theorem elects21 : saysA Try.prog (plansOf Try.prog electsSp raftElectsTab) 1000 4 [.res 31 21] = true := by kernel_rfl
theorem elects22 : saysA Try.prog (plansOf Try.prog electsSp raftElectsTab) 1000 4 [.res 31 22] = true := by kernel_rfl
theorem elects23 : saysA Try.prog (plansOf Try.prog electsSp raftElectsTab) 1000 4 [.res 31 23] = true := by kernel_rfl
end Go.Proofs.Ytcdegmbabbgiaaa
