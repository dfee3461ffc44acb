/-
  RaftElects at some residues of its argument: it says true.
-/
import Derived.Test.YtcdegmbabbgiaaaElectsTab
namespace Go.Proofs.Ytcdegmbabbgiaaa
open Go.RowKit Go.AM

set_option maxRecDepth 100000
theorem elects0 : saysA Try.prog (plansOf Try.prog electsSp raftElectsTab) 1000 4 [.res 31 0] = true := by kernel_rfl
theorem elects1 : saysA Try.prog (plansOf Try.prog electsSp raftElectsTab) 1000 4 [.res 31 1] = true := by kernel_rfl
theorem elects2 : saysA Try.prog (plansOf Try.prog electsSp raftElectsTab) 1000 4 [.res 31 2] = true := by kernel_rfl
theorem elects3 : saysA Try.prog (plansOf Try.prog electsSp raftElectsTab) 1000 4 [.res 31 3] = true := by kernel_rfl
theorem elects4 : saysA Try.prog (plansOf Try.prog electsSp raftElectsTab) 1000 4 [.res 31 4] = true := by kernel_rfl
theorem elects5 : saysA Try.prog (plansOf Try.prog electsSp raftElectsTab) 1000 4 [.res 31 5] = true := by kernel_rfl
theorem elects6 : saysA Try.prog (plansOf Try.prog electsSp raftElectsTab) 1000 4 [.res 31 6] = true := by kernel_rfl
theorem elects7 : saysA Try.prog (plansOf Try.prog electsSp raftElectsTab) 1000 4 [.res 31 7] = true := by kernel_rfl
end Go.Proofs.Ytcdegmbabbgiaaa
