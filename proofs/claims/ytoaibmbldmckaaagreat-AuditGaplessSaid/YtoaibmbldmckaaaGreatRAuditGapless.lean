/-
  AuditGapless: whatever the arguments and whatever the order, the call returns true and turns nothing. The code that is reached is walked once over the abstract machine of the Am texts; what it comes to is a plain function of plain data, of which the law is shown; no condition.
-/
import Derived.Carry
import Derived.ChangeMaps5
import Derived.Test.YtoaibmbldmckaaaGreatRows
import Derived.Test.YtoaibmbldmckaaaGreatX5
namespace Go.AM
theorem aY1 {P : Program} {pl : eU} (hp : PlansOK P pl) {f : FuncId} {args : List V} (h : ∀ K : KW, W P pl f args St.empty K = K (.bool true) St.empty) (W' : World) {cs : List Value} (hc : VRs (Gh.all W') args cs) :
    Calls P f cs.toArray W' fun e W'' => e = .returned (.bool true) ∧ RowKit.Below W'.heap.size W' W'' := by
  obtain ⟨k, v, S', hv, hk⟩ := aYf (K := fun v _ => v = .bool true) (by rw [h])
  subst hv
  exact zG hp hk W' hc
end Go.AM
namespace Go.Proofs.YtoaibmbldmckaaaGreat
open Go.ChangeMaps Go.ChangeShapes Go.WideShapes Go.ChangeAt Go.RowKit Go.AM
set_option maxRecDepth 100000
theorem Tryz.own : ownKnob Tryz.prog.godebug = none := by kernel_rfl
theorem Tryz.laidOut : laidOutB Tryz.prog = true := by kernel_rfl
theorem auditGapless_lifted (os : Os) (started : os.Started) (H : Type) (enc : TypeId × Value → H) :
    ReturnsInHanded {} Tryz.checked os 8 .any (Rows.auditGaplessSpec.pre6 enc Tryz.prog Tryz.f8 Rows.auditGaplessRow.domain false) (Rows.auditGaplessSpec.post enc Tryz.prog Tryz.f8 false true false false) := by
  refine returnsInHanded_of_change (C := Tryz.checked) Tryz.own started (by kernel_rfl) Tryz.func8
    (ChangeSpec.witness6 (enc := enc) (C := Tryz.checked) false ⟨#[], #[.slice none 0 0, .int .i64 0], []⟩ 8 (by kernel_rfl) (by kernel_rfl) (by kernel_rfl) (by kernel_rfl)) ?_
  intro W base args ds gs before hval0 hW _ _
  have hval : ∀ (j : Nat) t v, Tryz.f8.params[j]? = some t → args[j]? = some v → Value.okWide Tryz.prog W .any base t v := hval0
  have hW' := hW
  obtain ⟨p, q, hA0, hV, rfl, _, _⟩ := hW
  have hA : DataW.TrodAll enc Tryz.prog W 0 (fun _ => true) true Tryz.f8.params.toList args.toList ds p := hA0
  rw [Tryz.params8] at hA hval
  obtain ⟨v0, v1, d0, d1, p0, p1, rfl, rfl, rfl, h0, h1⟩ := trodAll_two hA
  obtain ⟨rfl, rfl⟩ := trodVars_none hV
  have hlt := hW'.lt
  obtain ⟨x0, n0, hx0, hs0⟩ := aBs Tryz.underlying44 (d := 20) (by kernel_rfl) (hval 0 44 v0 rfl rfl) h0
  obtain ⟨y0, hy0⟩ := aQd hs0
  cases hy0
  obtain ⟨y1, rfl, rfl, rfl, hwb1⟩ := open_int Tryz.underlying3 (hval 1 3 v1 rfl rfl) h1
  refine (aY1 aN8 (fun K => g8 y0 y1 St.empty K) W (.cons _ _ _ _ hx0 (.cons _ _ _ _ (.int _ _) .nil))).mono fun e W' ⟨he, hw⟩ => ?_
  subst he
  exact ⟨_, rfl, aCl (pv := []) hW' (fun b sp hd => aNn Tryz.underlying4 b sp hd) (fun sp hsp => trodAll_mk2 (aNo Tryz.laidOut (by kernel_rfl) (Nat.le_of_ble_eq_true (by kernel_rfl)) h0 hw (fun x hx => hlt x (by simp [hx])) (fun x hx => hsp x (by simp [hx]))) (shut_int Tryz.underlying3 hwb1)) (fun _ _ => rfl) (by simp) (aCm hw _)⟩
theorem tA : Tryz.pinned.checked.prog.funcNamed Rows.auditGaplessRow.func = some 8 := by kernel_rfl
set_option maxHeartbeats 20000000 in
theorem tC : joinedFacts Tryz.pinned.checked.prog 8 Tryz.f8 Rows.auditGaplessSpec Rows.auditGaplessRow = true := by
  unfold joinedFacts
  simp only [Bool.and_eq_true]
  and_intros <;> decide +kernel
theorem uR : Tryz.f8.isInstance Tryz.pinned.checked.prog Rows.auditGaplessRow.origin Rows.auditGaplessRow.targs := of_decide_eq_true (by kernel_rfl)
theorem uS : Tryz.f8.isWrapper Tryz.pinned.checked.prog Rows.auditGaplessRow.wrapper Rows.auditGaplessRow.mainSum := by unfold Func.isWrapper; first | (rw [if_pos (by decide +kernel)]; kernel_rfl) | (rw [if_neg (by decide +kernel)]; exact ⟨rfl, rfl⟩)
theorem auditGapless_holds : Rows.AuditGaplessSaid :=
  OpenClaim.holds_of_wide 8 Tryz.f8 rfl rfl rfl rfl rfl rfl rfl ⟨rfl, rfl, rfl, rfl, rfl⟩ rfl rfl rfl rfl rfl tA Tryz.func8 tC uR uS
    (fun os started H enc _ => auditGapless_lifted os started H enc)
end Go.Proofs.YtoaibmbldmckaaaGreat
