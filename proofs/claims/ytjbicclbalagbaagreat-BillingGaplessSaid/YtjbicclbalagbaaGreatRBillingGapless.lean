/-
  BillingGapless: whatever the arguments and whatever the order, the call returns true and turns nothing. The code that is reached is walked once over the abstract machine of the Am texts; what it comes to is a plain function of plain data, of which the law is shown; no condition.
-/
import Derived.Test.YtjbicclbalagbaaGreatRows
import Derived.Test.YtjbicclbalagbaaGreatX5
namespace Go.Proofs.YtjbicclbalagbaaGreat
open Go.ChangeShapes Go.WideShapes Go.ChangeAt Go.RowKit Go.AM
set_option maxRecDepth 100000
theorem Tryz.own : ownKnob Tryz.prog.godebug = none := by kernel_rfl
theorem Tryz.laidOut : laidOutB Tryz.prog = true := by kernel_rfl
theorem billingGapless_lifted (os : Os) (started : os.Started) (H : Type) (enc : TypeId × Value → H) :
    ReturnsInHanded {} Tryz.checked os 5 .any (Rows.billingGaplessSpec.pre6 enc Tryz.prog Tryz.f5 Rows.billingGaplessRow.domain false) (Rows.billingGaplessSpec.post enc Tryz.prog Tryz.f5 false true false false) := by
  refine returnsInHanded_of_change (C := Tryz.checked) Tryz.own started (by kernel_rfl) Tryz.func5
    (ChangeSpec.witness6 (enc := enc) (C := Tryz.checked) false ⟨#[], #[.slice none 0 0], []⟩ 8 (by kernel_rfl) (by kernel_rfl) (by kernel_rfl) (by kernel_rfl)) ?_
  intro W base args ds gs before hval0 hW _ _
  have hval : ∀ (j : Nat) t v, Tryz.f5.params[j]? = some t → args[j]? = some v → Value.okWide Tryz.prog W .any base t v := hval0
  have hW' := hW
  obtain ⟨p, q, hA0, hV, rfl, _, _⟩ := hW
  have hA : DataW.TrodAll enc Tryz.prog W 0 (fun _ => true) true Tryz.f5.params.toList args.toList ds p := hA0
  rw [Tryz.params5] at hA hval
  obtain ⟨v0, d0, rfl, rfl, h0⟩ := trodAll_one hA
  obtain ⟨rfl, rfl⟩ := trodVars_none hV
  have hlt := hW'.lt
  obtain ⟨x0, n0, hx0, hs0⟩ := open_slice_arg Tryz.underlying22 (d := 20) (by kernel_rfl) (hval 0 22 v0 rfl rfl) h0
  obtain ⟨l0, y0, hy0, hsl0, hlo0, hbl0⟩ := sh_calls hs0
  cases hy0
  refine (Does.calls dPlans_ok (g5 x0 l0 St.empty WF_empty hlo0 hsl0 hbl0) W (.cons _ _ _ _ hx0 .nil)).mono fun e W' ⟨he, hw⟩ => ?_
  subst he
  exact ⟨_, rfl, post_of_below (pv := []) hW' (fun b sp hd => true_trod Tryz.underlying4 b sp hd) (fun sp hsp => trodAll_mk1 (again_arg Tryz.laidOut (by kernel_rfl) (Nat.le_of_ble_eq_true (by kernel_rfl)) h0 hw (fun x hx => hlt x (by simp [hx])) (fun x hx => hsp x (by simp [hx])))) (fun _ _ => rfl) (by simp) (kept_of_below hw _)⟩
theorem billingGapless_holds : Rows.BillingGaplessSaid :=
  OpenClaim.holds_of_wide 5 Tryz.f5 rfl rfl rfl rfl rfl rfl rfl ⟨rfl, rfl, rfl, rfl, rfl⟩ rfl rfl rfl rfl rfl (by kernel_rfl) Tryz.func5 (by kernel_rfl)
    (of_decide_eq_true (by kernel_rfl)) (by unfold Func.isWrapper; first | (rw [if_pos (by decide +kernel)]; kernel_rfl) | (rw [if_neg (by decide +kernel)]; exact ⟨rfl, rfl⟩))
    (fun os started H enc _ => billingGapless_lifted os started H enc)
end Go.Proofs.YtjbicclbalagbaaGreat
