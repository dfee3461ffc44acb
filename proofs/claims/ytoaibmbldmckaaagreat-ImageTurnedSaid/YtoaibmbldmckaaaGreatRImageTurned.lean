/-
  ImageTurned: whatever the arguments and whatever the order, the call returns true and turns nothing. The code that is reached is walked once over the abstract machine of the Am texts; what it comes to is a plain function of plain data, of which the law is shown; no condition.
-/
import Derived.Carry
import Derived.ChangeMaps5
import Derived.Test.YtoaibmbldmckaaaGreatRows
import Derived.Test.YtoaibmbldmckaaaGreatX6
namespace Go.AM
theorem bHl {P : Program} {pl : kA} (hp : PlansOK P pl) {f : FuncId} {args : List V} (h : ∀ K : KW, W P pl f args St.empty K = K (.bool true) St.empty) (W' : World) {cs : List Value} (hc : VRs (Gh.all W') args cs) :
    Calls P f cs.toArray W' fun e W'' => e = .returned (.bool true) ∧ RowKit.Below W'.heap.size W' W'' := by
  obtain ⟨k, v, S', hv, hk⟩ := bHq (K := fun v _ => v = .bool true) (by rw [h])
  subst hv
  exact aNm hp hk W' hc
end Go.AM
namespace Go.Proofs.YtoaibmbldmckaaaGreat
open Go.ChangeMaps Go.ChangeShapes Go.WideShapes Go.ChangeAt Go.RowKit Go.AM
set_option maxRecDepth 100000
theorem Tryz.own : ownKnob Tryz.prog.godebug = none := by kernel_rfl
theorem Tryz.laidOut : laidOutB Tryz.prog = true := by kernel_rfl
theorem imageTurned_lifted (os : Os) (started : os.Started) (H : Type) (enc : TypeId × Value → H) :
    ReturnsInHanded {} Tryz.checked os 14 .any (Rows.imageTurnedSpec.pre6 enc Tryz.prog Tryz.f14 Rows.imageTurnedRow.domain false) (Rows.imageTurnedSpec.post enc Tryz.prog Tryz.f14 false true false false) := by
  refine returnsInHanded_of_change (C := Tryz.checked) Tryz.own started (by kernel_rfl) Tryz.func14
    (ChangeSpec.witness6 (enc := enc) (C := Tryz.checked) false ⟨#[], #[.slice none 0 0, .int .i64 0, .int .u8 0, .int .i64 0], []⟩ 8 (by kernel_rfl) (by kernel_rfl) (by kernel_rfl) (by kernel_rfl)) ?_
  intro W base args ds gs before hval0 hW _ _
  have hval : ∀ (j : Nat) t v, Tryz.f14.params[j]? = some t → args[j]? = some v → Value.okWide Tryz.prog W .any base t v := hval0
  have hW' := hW
  obtain ⟨p, q, hA0, hV, rfl, _, _⟩ := hW
  have hA : DataW.TrodAll enc Tryz.prog W 0 (fun _ => true) true Tryz.f14.params.toList args.toList ds p := hA0
  rw [Tryz.params14] at hA hval
  obtain ⟨v0, v1, v2, v3, d0, d1, d2, d3, p0, p1, p2, p3, rfl, rfl, rfl, h0, h1, h2, h3⟩ := trodAll_four hA
  obtain ⟨rfl, rfl⟩ := trodVars_none hV
  have hlt := hW'.lt
  obtain ⟨x0, n0, hx0, hs0⟩ := aGf Tryz.underlying44 (d := 20) (by kernel_rfl) (hval 0 44 v0 rfl rfl) h0
  obtain ⟨y0, hy0⟩ := bAj hs0
  cases hy0
  obtain ⟨y1, rfl, rfl, rfl, hwb1⟩ := open_int Tryz.underlying3 (hval 1 3 v1 rfl rfl) h1
  obtain ⟨y2, rfl, rfl, rfl, hwb2⟩ := open_int Tryz.underlying5 (hval 2 5 v2 rfl rfl) h2
  obtain ⟨y2, rfl⟩ : ∃ c : UInt8, y2 = (c.toNat : Int) := by
    have hb : 0 ≤ y2 ∧ y2 ≤ 255 := by simpa [Lit.wf, IntKind.min, IntKind.max, IntKind.bits, IntKind.signed] using hwb2
    refine ⟨UInt8.ofNat y2.toNat, ?_⟩
    rw [UInt8.toNat_ofNat']
    omega
  obtain ⟨y3, rfl, rfl, rfl, hwb3⟩ := open_int Tryz.underlying3 (hval 3 3 v3 rfl rfl) h3
  refine (bHl aU5 (fun K => g14 y0 y1 y2 y3 St.empty K) W (.cons _ _ _ _ hx0 (.cons _ _ _ _ (.int _ _) (.cons _ _ _ _ (.int _ _) (.cons _ _ _ _ (.int _ _) .nil))))).mono fun e W' ⟨he, hw⟩ => ?_
  subst he
  exact ⟨_, rfl, aHd (pv := []) hW' (fun b sp hd => aV0 Tryz.underlying4 b sp hd) (fun sp hsp => trodAll_mk4 (aV1 Tryz.laidOut (by kernel_rfl) (Nat.le_of_ble_eq_true (by kernel_rfl)) h0 hw (fun x hx => hlt x (by simp [hx])) (fun x hx => hsp x (by simp [hx]))) (shut_int Tryz.underlying3 hwb1) (shut_int Tryz.underlying5 hwb2) (shut_int Tryz.underlying3 hwb3)) (fun _ _ => rfl) (by simp) (aHe hw _)⟩
theorem aA4 : Tryz.pinned.checked.prog.funcNamed Rows.imageTurnedRow.func = some 14 := by kernel_rfl
set_option maxHeartbeats 20000000 in
theorem aA5 : joinedFacts Tryz.pinned.checked.prog 14 Tryz.f14 Rows.imageTurnedSpec Rows.imageTurnedRow = true := by
  unfold joinedFacts
  simp only [Bool.and_eq_true]
  and_intros <;> decide +kernel
theorem aBl : Tryz.f14.isInstance Tryz.pinned.checked.prog Rows.imageTurnedRow.origin Rows.imageTurnedRow.targs := of_decide_eq_true (by kernel_rfl)
theorem aBm : Tryz.f14.isWrapper Tryz.pinned.checked.prog Rows.imageTurnedRow.wrapper Rows.imageTurnedRow.mainSum := by unfold Func.isWrapper; first | (rw [if_pos (by decide +kernel)]; kernel_rfl) | (rw [if_neg (by decide +kernel)]; exact ⟨rfl, rfl⟩)
theorem imageTurned_holds : Rows.ImageTurnedSaid :=
  OpenClaim.holds_of_wide 14 Tryz.f14 rfl rfl rfl rfl rfl rfl rfl ⟨rfl, rfl, rfl, rfl, rfl⟩ rfl rfl rfl rfl rfl aA4 Tryz.func14 aA5 aBl aBm
    (fun os started H enc _ => imageTurned_lifted os started H enc)
end Go.Proofs.YtoaibmbldmckaaaGreat
