/-
  RaftKeeps: whatever the arguments and whatever the order, the call returns true and turns nothing. The code that is reached is walked once over the abstract machine of the Am texts; what it comes to is a plain function of plain data, of which the law is shown; no condition.
-/
import Derived.Carry
import Derived.Test.YtbiidlmhadihlaaRows
import Derived.Test.YtbiidlmhadihlaaX4
namespace Go.Proofs.Ytbiidlmhadihlaa
open Go.ChangeShapes Go.WideShapes Go.ChangeAt Go.RowKit Go.AM
set_option maxRecDepth 100000
theorem Try.own : ownKnob Try.prog.godebug = none := by kernel_rfl
theorem Try.laidOut : laidOutB Try.prog = true := by kernel_rfl
theorem raftKeeps_lifted (os : Os) (started : os.Started) (H : Type) (enc : TypeId × Value → H) :
    ReturnsInHanded {} Try.checked os 4 .any (Rows.raftKeepsSpec.pre6 enc Try.prog Try.f4 Rows.raftKeepsRow.domain false) (Rows.raftKeepsSpec.post enc Try.prog Try.f4 false true false false) := by
  refine returnsInHanded_of_change (C := Try.checked) Try.own started (by kernel_rfl) Try.func4
    (ChangeSpec.witness6 (enc := enc) (C := Try.checked) false ⟨#[], #[.int .i64 0, .agg #[.int .i64 0, .int .i64 0, .int .i64 0, .int .i64 0, .int .i64 0, .string ByteArray.empty, .slice none 0 0], .int .i64 0, .slice none 0 0], []⟩ 8 (by kernel_rfl) (by kernel_rfl) (by kernel_rfl) (by kernel_rfl)) ?_
  intro W base args ds gs before hval0 hW _ _
  have hval : ∀ (j : Nat) t v, Try.f4.params[j]? = some t → args[j]? = some v → Value.okWide Try.prog W .any base t v := hval0
  have hW' := hW
  obtain ⟨p, q, hA0, hV, rfl, _, _⟩ := hW
  have hA : DataW.TrodAll enc Try.prog W 0 (fun _ => true) true Try.f4.params.toList args.toList ds p := hA0
  rw [Try.params4] at hA hval
  obtain ⟨v0, v1, v2, v3, d0, d1, d2, d3, p0, p1, p2, p3, rfl, rfl, rfl, h0, h1, h2, h3⟩ := trodAll_four hA
  obtain ⟨rfl, rfl⟩ := trodVars_none hV
  have hlt := hW'.lt
  obtain ⟨b0, rfl, rfl, rfl, hwb0⟩ := open_int Try.underlying3 (hval 0 3 v0 rfl rfl) h0
  obtain ⟨x1, n1, hx1, hs1⟩ := open_struct_arg Try.underlying24 (d := 20) (by kernel_rfl) (hval 1 24 v1 rfl rfl) h1
  obtain ⟨g1, lv1, hq1, sl1, bl1, ll1⟩ := sh_hard hs1
  subst hq1
  obtain ⟨b2, rfl, rfl, rfl, hwb2⟩ := open_int Try.underlying3 (hval 2 3 v2 rfl rfl) h2
  obtain ⟨x3, n3, hx3, hs3⟩ := open_slice_arg Try.underlying25 (d := 20) (by kernel_rfl) (hval 3 25 v3 rfl rfl) h3
  obtain ⟨qs3, av3, hq3, sl3, bl3, ok3⟩ := sh_asks hs3
  cases hq3
  refine (Does.calls dPlans_ok (g4 b0 b2 g1 lv1 x3 qs3 St.empty WF_empty (sl1 _) (Nat.le_trans ll1 (by decide)) ok3 sl3 bl3) W (.cons _ _ _ _ (.int _ _) (.cons _ _ _ _ hx1 (.cons _ _ _ _ (.int _ _) (.cons _ _ _ _ hx3 .nil))))).mono fun e W' ⟨he, hw⟩ => ?_
  subst he
  exact ⟨_, rfl, post_of_below (pv := []) hW' (fun b sp hd => true_trod Try.underlying4 b sp hd) (fun sp hsp => trodAll_mk4 (shut_int Try.underlying3 hwb0) (again_arg Try.laidOut (by kernel_rfl) (Nat.le_of_ble_eq_true (by kernel_rfl)) h1 hw (fun x hx => hlt x (by simp [hx])) (fun x hx => hsp x (by simp [hx]))) (shut_int Try.underlying3 hwb2) (again_arg Try.laidOut (by kernel_rfl) (Nat.le_of_ble_eq_true (by kernel_rfl)) h3 hw (fun x hx => hlt x (by simp [hx])) (fun x hx => hsp x (by simp [hx])))) (fun _ _ => rfl) (by simp) (kept_of_below hw _)⟩
theorem raftKeeps_holds : Rows.RaftKeepsSaid :=
  OpenClaim.holds_of_wide 4 Try.f4 rfl rfl rfl rfl rfl rfl rfl ⟨rfl, rfl, rfl, rfl, rfl⟩ rfl rfl rfl rfl rfl (by kernel_rfl) Try.func4 (by kernel_rfl)
    (of_decide_eq_true (by kernel_rfl)) (by unfold Func.isWrapper; first | (rw [if_pos (by decide +kernel)]; kernel_rfl) | (rw [if_neg (by decide +kernel)]; exact ⟨rfl, rfl⟩))
    (fun os started H enc _ => raftKeeps_lifted os started H enc)
end Go.Proofs.Ytbiidlmhadihlaa
