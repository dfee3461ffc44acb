/-
  AuditRises: whatever the arguments and whatever the order, the call returns true and turns nothing. The code that is reached is walked once over the abstract machine of the Am texts; what it comes to is a plain function of plain data, of which the law is shown; no condition.
-/
import Derived.Test.YtoaibmbldmckaaaGreatRows
import Derived.Test.YtoaibmbldmckaaaGreatX5
namespace Go.AM
theorem aXf {P : Program} {pl : eS} (hp : PlansOK P pl) {f : FuncId} {args : List V} (h : ∀ K : KW, W P pl f args St.empty K = K (.bool true) St.empty) (W' : World) {cs : List Value} (hc : VRs (Gh.all W') args cs) :
    Calls P f cs.toArray W' fun e W'' => e = .returned (.bool true) ∧ RowKit.Below W'.heap.size W' W'' := by
  obtain ⟨k, v, S', hv, hk⟩ := aXt (K := fun v _ => v = .bool true) (by rw [h])
  subst hv
  exact yP hp hk W' hc
end Go.AM
namespace Go.Proofs.YtoaibmbldmckaaaGreat
open Go.ChangeShapes Go.WideShapes Go.ChangeAt Go.RowKit Go.AM
set_option maxRecDepth 100000
theorem Tryz.own : ownKnob Tryz.prog.godebug = none := by kernel_rfl
theorem Tryz.laidOut : laidOutB Tryz.prog = true := by kernel_rfl
theorem auditRises_lifted (os : Os) (started : os.Started) (H : Type) (enc : TypeId × Value → H) :
    ReturnsInHanded {} Tryz.checked os 10 .any (Rows.auditRisesSpec.pre6 enc Tryz.prog Tryz.f10 Rows.auditRisesRow.domain false) (Rows.auditRisesSpec.post enc Tryz.prog Tryz.f10 false true false false) := by
  refine returnsInHanded_of_change (C := Tryz.checked) Tryz.own started (by kernel_rfl) Tryz.func10
    (ChangeSpec.witness6 (enc := enc) (C := Tryz.checked) false ⟨#[], #[.slice none 0 0, .agg #[.int .i64 0, .int .i64 0, .int .i64 0], .agg #[.int .i64 0, .int .i64 0, .int .i64 0]], []⟩ 8 (by kernel_rfl) (by kernel_rfl) (by kernel_rfl) (by kernel_rfl)) ?_
  intro W base args ds gs before hval0 hW _ _
  have hval : ∀ (j : Nat) t v, Tryz.f10.params[j]? = some t → args[j]? = some v → Value.okWide Tryz.prog W .any base t v := hval0
  have hW' := hW
  obtain ⟨p, q, hA0, hV, rfl, _, _⟩ := hW
  have hA : DataW.TrodAll enc Tryz.prog W 0 (fun _ => true) true Tryz.f10.params.toList args.toList ds p := hA0
  rw [Tryz.params10] at hA hval
  obtain ⟨v0, v1, v2, d0, d1, d2, p0, p1, p2, rfl, rfl, rfl, h0, h1, h2⟩ := trodAll_three hA
  obtain ⟨rfl, rfl⟩ := trodVars_none hV
  have hlt := hW'.lt
  obtain ⟨x0, n0, hx0, hs0⟩ := aBh Tryz.underlying44 (d := 20) (by kernel_rfl) (hval 0 44 v0 rfl rfl) h0
  obtain ⟨y0, hy0⟩ := aPq hs0
  cases hy0
  obtain ⟨x1, n1, hx1, hs1⟩ := pL Tryz.underlying52 (d := 20) (by kernel_rfl) (hval 1 52 v1 rfl rfl) h1
  obtain ⟨y1, hy1⟩ := aA4 hs1
  subst hy1
  obtain ⟨x2, n2, hx2, hs2⟩ := pL Tryz.underlying52 (d := 20) (by kernel_rfl) (hval 2 52 v2 rfl rfl) h2
  obtain ⟨y2, hy2⟩ := aA4 hs2
  subst hy2
  refine (aXf aMo (fun K => g10 y0 y1 y2 St.empty K) W (.cons _ _ _ _ hx0 (.cons _ _ _ _ hx1 (.cons _ _ _ _ hx2 .nil)))).mono fun e W' ⟨he, hw⟩ => ?_
  subst he
  exact ⟨_, rfl, aCc (pv := []) hW' (fun b sp hd => aN1 Tryz.underlying4 b sp hd) (fun sp hsp => trodAll_mk3 (xC Tryz.laidOut (by kernel_rfl) (Nat.le_of_ble_eq_true (by kernel_rfl)) h0 hw (fun x hx => hlt x (by simp [hx])) (fun x hx => hsp x (by simp [hx]))) (xC Tryz.laidOut (by kernel_rfl) (Nat.le_of_ble_eq_true (by kernel_rfl)) h1 hw (fun x hx => hlt x (by simp [hx])) (fun x hx => hsp x (by simp [hx]))) (xC Tryz.laidOut (by kernel_rfl) (Nat.le_of_ble_eq_true (by kernel_rfl)) h2 hw (fun x hx => hlt x (by simp [hx])) (fun x hx => hsp x (by simp [hx])))) (fun _ _ => rfl) (by simp) (aCd hw _)⟩
theorem wC : Tryz.pinned.checked.prog.funcNamed Rows.auditRisesRow.func = some 10 := by kernel_rfl
set_option maxHeartbeats 20000000 in
theorem wF : joinedFacts Tryz.pinned.checked.prog 10 Tryz.f10 Rows.auditRisesSpec Rows.auditRisesRow = true := by
  unfold joinedFacts
  simp only [Bool.and_eq_true]
  and_intros <;> decide +kernel
theorem yX : Tryz.f10.isInstance Tryz.pinned.checked.prog Rows.auditRisesRow.origin Rows.auditRisesRow.targs := of_decide_eq_true (by kernel_rfl)
theorem yY : Tryz.f10.isWrapper Tryz.pinned.checked.prog Rows.auditRisesRow.wrapper Rows.auditRisesRow.mainSum := by unfold Func.isWrapper; first | (rw [if_pos (by decide +kernel)]; kernel_rfl) | (rw [if_neg (by decide +kernel)]; exact ⟨rfl, rfl⟩)
theorem auditRises_holds : Rows.AuditRisesSaid :=
  OpenClaim.holds_of_wide 10 Tryz.f10 rfl rfl rfl rfl rfl rfl rfl ⟨rfl, rfl, rfl, rfl, rfl⟩ rfl rfl rfl rfl rfl wC Tryz.func10 wF yX yY
    (fun os started H enc _ => auditRises_lifted os started H enc)
end Go.Proofs.YtoaibmbldmckaaaGreat
