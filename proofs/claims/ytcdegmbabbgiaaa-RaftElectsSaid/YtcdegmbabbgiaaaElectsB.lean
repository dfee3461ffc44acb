/-
  RaftElects at some residues of its argument: it says true.
-/
import Derived.Test.YtcdegmbabbgiaaaElectsTab
namespace Go.Proofs.Ytcdegmbabbgiaaa
open Go.RowKit Go.AM

set_option maxRecDepth 100000
theorem elects8 : saysA Try.prog (plansOf Try.prog electsSp raftElectsTab) 1000 4 [.res 31 8] = true := by kernel_rfl
theorem elects9 : saysA Try.prog (plansOf Try.prog electsSp raftElectsTab) 1000 4 [.res 31 9] = true := by kernel_rfl
theorem elects10 : saysA Try.prog (plansOf Try.prog electsSp raftElectsTab) 1000 4 [.res 31 10] = true := by kernel_rfl
theorem elects11 : saysA Try.prog (plansOf Try.prog electsSp raftElectsTab) 1000 4 [.res 31 11] = true := by kernel_rfl
theorem elects12 : saysA Try.prog (plansOf Try.prog electsSp raftElectsTab) 1000 4 [.res 31 12] = true := by kernel_rfl
theorem elects13 : saysA Try.prog (plansOf Try.prog electsSp raftElectsTab) 1000 4 [.res 31 13] = true := by kernel_rfl
theorem elects14 : saysA Try.prog (plansOf Try.prog electsSp raftElectsTab) 1000 4 [.res 31 14] = true := by kernel_rfl
theorem elects15 : saysA Try.prog (plansOf Try.prog electsSp raftElectsTab) 1000 4 [.res 31 15] = true := by kernel_rfl
end Go.Proofs.Ytcdegmbabbgiaaa
