/-
  RaftElects at some residues of its argument: it says true.
-/
import Derived.Test.YtcdegmbabbgiaaaElectsTab
namespace Go.Proofs.Ytcdegmbabbgiaaa
open Go.RowKit Go.AM

set_option maxRecDepth 100000
theorem elects24 : saysA Try.prog (plansOf Try.prog electsSp raftElectsTab) 1000 4 [.res 31 24] = true := by kernel_rfl
theorem elects25 : saysA Try.prog (plansOf Try.prog electsSp raftElectsTab) 1000 4 [.res 31 25] = true := by kernel_rfl
theorem elects26 : saysA Try.prog (plansOf Try.prog electsSp raftElectsTab) 1000 4 [.res 31 26] = true := by kernel_rfl
theorem elects27 : saysA Try.prog (plansOf Try.prog electsSp raftElectsTab) 1000 4 [.res 31 27] = true := by kernel_rfl
theorem elects28 : saysA Try.prog (plansOf Try.prog electsSp raftElectsTab) 1000 4 [.res 31 28] = true := by kernel_rfl
theorem elects29 : saysA Try.prog (plansOf Try.prog electsSp raftElectsTab) 1000 4 [.res 31 29] = true := by kernel_rfl
theorem elects30 : saysA Try.prog (plansOf Try.prog electsSp raftElectsTab) 1000 4 [.res 31 30] = true := by kernel_rfl
end Go.Proofs.Ytcdegmbabbgiaaa
