/-
  RaftElects: whatever the argument and whatever the order, the call returns true and turns nothing. The code is run over the abstract machine of the Am texts, by the kernel, once for each of the argument's 31 residues; no condition.
-/
import Derived.Test.YtcdegmbabbgiaaaRows
import Derived.Test.YtcdegmbabbgiaaaAmRow
import Derived.Test.YtcdegmbabbgiaaaElectsA
import Derived.Test.YtcdegmbabbgiaaaElectsB
import Derived.Test.YtcdegmbabbgiaaaElectsC
import Derived.Test.YtcdegmbabbgiaaaElectsD
namespace Go.Proofs.Ytcdegmbabbgiaaa
open Go.ChangeShapes Go.WideShapes Go.ChangeAt Go.RowKit Go.AM

theorem Try.own : ownKnob Try.prog.godebug = none := by kernel_rfl
theorem Try.laidOut : laidOutB Try.prog = true := by kernel_rfl

set_option maxRecDepth 100000
theorem elects_all : ∀ (r : Nat), r < 31 → saysA Try.prog (plansOf Try.prog electsSp raftElectsTab) 1000 4 [.res 31 r] = true
  | 0, _ => elects0
  | 1, _ => elects1
  | 2, _ => elects2
  | 3, _ => elects3
  | 4, _ => elects4
  | 5, _ => elects5
  | 6, _ => elects6
  | 7, _ => elects7
  | 8, _ => elects8
  | 9, _ => elects9
  | 10, _ => elects10
  | 11, _ => elects11
  | 12, _ => elects12
  | 13, _ => elects13
  | 14, _ => elects14
  | 15, _ => elects15
  | 16, _ => elects16
  | 17, _ => elects17
  | 18, _ => elects18
  | 19, _ => elects19
  | 20, _ => elects20
  | 21, _ => elects21
  | 22, _ => elects22
  | 23, _ => elects23
  | 24, _ => elects24
  | 25, _ => elects25
  | 26, _ => elects26
  | 27, _ => elects27
  | 28, _ => elects28
  | 29, _ => elects29
  | 30, _ => elects30
  | n + 31, h => absurd h (by omega)
theorem elects_any (W : World) (n : Int) : Calls Try.prog 4 #[.int .i64 n] W fun e W' => e = .returned (.bool true) ∧ Below W.heap.size W W' := by
  obtain ⟨r, hr, hv⟩ := res_cases n 31 (by omega)
  exact callsA_true electsPlans_ok (elects_all r hr) W hv

theorem raftElects_lifted (os : Os) (started : os.Started) (H : Type) (enc : TypeId × Value → H) :
    ReturnsInHanded {} Try.checked os 4 .any (Rows.raftElectsSpec.pre6 enc Try.prog Try.f4 Rows.raftElectsRow.domain false) (Rows.raftElectsSpec.post enc Try.prog Try.f4 false true false false) := by
  refine returnsInHanded_of_change (C := Try.checked) Try.own started (by kernel_rfl) Try.func4
    (ChangeSpec.witness6 (enc := enc) (C := Try.checked) false ⟨#[], #[.int .i64 0], []⟩ 8 (by kernel_rfl) (by kernel_rfl) (by kernel_rfl) (by kernel_rfl)) ?_
  intro W base args ds gs before hval0 hW _ _
  have hval : ∀ (j : Nat) t v, Try.f4.params[j]? = some t → args[j]? = some v → Value.okWide Try.prog W .any base t v := hval0
  have hW' := hW
  obtain ⟨p, q, hA0, hV, rfl, _, _⟩ := hW
  have hA : DataW.TrodAll enc Try.prog W 0 (fun _ => true) true Try.f4.params.toList args.toList ds p := hA0
  rw [Try.params4] at hA hval
  obtain ⟨v0, d0, rfl, rfl, h0⟩ := trodAll_one hA
  obtain ⟨n, rfl, rfl, rfl, hwn⟩ := open_int Try.underlying3 (hval 0 3 v0 rfl rfl) h0
  obtain ⟨rfl, rfl⟩ := trodVars_none hV
  refine (elects_any W n).mono fun e W' ⟨he, hw⟩ => ?_
  subst he
  exact ⟨_, rfl, post_of_below (pa := []) (pv := []) hW' (fun b sp hd => true_trod Try.underlying4 b sp hd) (fun _ _ => trodAll_mk1 (shut_int Try.underlying3 hwn)) (fun _ _ => rfl) rfl (kept_of_below hw _)⟩

theorem raftElects_holds : Rows.RaftElectsSaid :=
  OpenClaim.holds_of_wide 4 Try.f4 rfl rfl rfl rfl rfl rfl rfl ⟨rfl, rfl, rfl, rfl, rfl⟩ rfl rfl rfl rfl rfl (by kernel_rfl) Try.func4 (by kernel_rfl)
    (of_decide_eq_true (by kernel_rfl)) (by unfold Func.isWrapper; first | (rw [if_pos (by decide +kernel)]; kernel_rfl) | (rw [if_neg (by decide +kernel)]; exact ⟨rfl, rfl⟩))
    (fun os started H enc _ => raftElects_lifted os started H enc)
end Go.Proofs.Ytcdegmbabbgiaaa
