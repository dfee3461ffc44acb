/-
  ImageSmall: whatever the arguments and whatever the order, the call returns true and turns nothing. The code that is reached is walked once over the abstract machine of the Am texts; what it comes to is a plain function of plain data, of which the law is shown; no condition.
-/
import Derived.Carry
import Derived.ChangeMaps5
import Derived.Test.YtoaibmbldmckaaaGreatRows
import Derived.Test.YtoaibmbldmckaaaGreatX4
namespace Go.AM
theorem bAu {P : Program} {pl : hZ} (hp : PlansOK P pl) {f : FuncId} {args : List V} (h : ∀ K : KW, W P pl f args St.empty K = K (.bool true) St.empty) (W' : World) {cs : List Value} (hc : VRs (Gh.all W') args cs) :
    Calls P f cs.toArray W' fun e W'' => e = .returned (.bool true) ∧ RowKit.Below W'.heap.size W' W'' := by
  obtain ⟨k, v, S', hv, hk⟩ := bAw (K := fun v _ => v = .bool true) (by rw [h])
  subst hv
  exact aHz hp hk W' hc
end Go.AM
namespace Go.Proofs.YtoaibmbldmckaaaGreat
open Go.ChangeMaps Go.ChangeShapes Go.WideShapes Go.ChangeAt Go.RowKit Go.AM
set_option maxRecDepth 100000
theorem Tryz.own : ownKnob Tryz.prog.godebug = none := by kernel_rfl
theorem Tryz.laidOut : laidOutB Tryz.prog = true := by kernel_rfl
theorem imageSmall_lifted (os : Os) (started : os.Started) (H : Type) (enc : TypeId × Value → H) :
    ReturnsInHanded {} Tryz.checked os 16 .any (Rows.imageSmallSpec.pre6 enc Tryz.prog Tryz.f16 Rows.imageSmallRow.domain false) (Rows.imageSmallSpec.post enc Tryz.prog Tryz.f16 false true false false) := by
  refine returnsInHanded_of_change (C := Tryz.checked) Tryz.own started (by kernel_rfl) Tryz.func16
    (ChangeSpec.witness6 (enc := enc) (C := Tryz.checked) false ⟨#[], #[.slice none 0 0, .slice none 0 0], []⟩ 8 (by kernel_rfl) (by kernel_rfl) (by kernel_rfl) (by kernel_rfl)) ?_
  intro W base args ds gs before hval0 hW _ _
  have hval : ∀ (j : Nat) t v, Tryz.f16.params[j]? = some t → args[j]? = some v → Value.okWide Tryz.prog W .any base t v := hval0
  have hW' := hW
  obtain ⟨p, q, hA0, hV, rfl, _, _⟩ := hW
  have hA : DataW.TrodAll enc Tryz.prog W 0 (fun _ => true) true Tryz.f16.params.toList args.toList ds p := hA0
  rw [Tryz.params16] at hA hval
  obtain ⟨v0, v1, d0, d1, p0, p1, rfl, rfl, rfl, h0, h1⟩ := trodAll_two hA
  obtain ⟨rfl, rfl⟩ := trodVars_none hV
  have hlt := hW'.lt
  obtain ⟨x0, n0, hx0, hs0⟩ := rN Tryz.underlying44 (d := 20) (by kernel_rfl) (hval 0 44 v0 rfl rfl) h0
  obtain ⟨y0, hy0⟩ := aI1 hs0
  cases hy0
  obtain ⟨x1, n1, hx1, hs1⟩ := rN Tryz.underlying44 (d := 20) (by kernel_rfl) (hval 1 44 v1 rfl rfl) h1
  obtain ⟨y1, hy1⟩ := aI1 hs1
  cases hy1
  refine (bAu aOn (fun K => g16 y0 y1 St.empty K) W (.cons _ _ _ _ hx0 (.cons _ _ _ _ hx1 .nil))).mono fun e W' ⟨he, hw⟩ => ?_
  subst he
  exact ⟨_, rfl, aCv (pv := []) hW' (fun b sp hd => aOw Tryz.underlying4 b sp hd) (fun sp hsp => trodAll_mk2 (aE6 Tryz.laidOut (by kernel_rfl) (Nat.le_of_ble_eq_true (by kernel_rfl)) h0 hw (fun x hx => hlt x (by simp [hx])) (fun x hx => hsp x (by simp [hx]))) (aE6 Tryz.laidOut (by kernel_rfl) (Nat.le_of_ble_eq_true (by kernel_rfl)) h1 hw (fun x hx => hlt x (by simp [hx])) (fun x hx => hsp x (by simp [hx])))) (fun _ _ => rfl) (by simp) (aCw hw _)⟩
theorem wZ : Tryz.pinned.checked.prog.funcNamed Rows.imageSmallRow.func = some 16 := by kernel_rfl
set_option maxHeartbeats 20000000 in
theorem xA : joinedFacts Tryz.pinned.checked.prog 16 Tryz.f16 Rows.imageSmallSpec Rows.imageSmallRow = true := by
  unfold joinedFacts
  simp only [Bool.and_eq_true]
  and_intros <;> decide +kernel
theorem zF : Tryz.f16.isInstance Tryz.pinned.checked.prog Rows.imageSmallRow.origin Rows.imageSmallRow.targs := of_decide_eq_true (by kernel_rfl)
theorem zG : Tryz.f16.isWrapper Tryz.pinned.checked.prog Rows.imageSmallRow.wrapper Rows.imageSmallRow.mainSum := by unfold Func.isWrapper; first | (rw [if_pos (by decide +kernel)]; kernel_rfl) | (rw [if_neg (by decide +kernel)]; exact ⟨rfl, rfl⟩)
theorem imageSmall_holds : Rows.ImageSmallSaid :=
  OpenClaim.holds_of_wide 16 Tryz.f16 rfl rfl rfl rfl rfl rfl rfl ⟨rfl, rfl, rfl, rfl, rfl⟩ rfl rfl rfl rfl rfl wZ Tryz.func16 xA zF zG
    (fun os started H enc _ => imageSmall_lifted os started H enc)
end Go.Proofs.YtoaibmbldmckaaaGreat
