/-
  ImagePuts: whatever the arguments and whatever the order, the call returns true and turns nothing. The code that is reached is walked once over the abstract machine of the Am texts; what it comes to is a plain function of plain data, of which the law is shown; no condition.
-/
import Derived.Carry
import Derived.ChangeMaps5
import Derived.Test.YtoaibmbldmckaaaGreatRows
import Derived.Test.YtoaibmbldmckaaaGreatX5
namespace Go.AM
theorem bCw {P : Program} {pl : jB} (hp : PlansOK P pl) {f : FuncId} {args : List V} (h : ∀ K : KW, W P pl f args St.empty K = K (.bool true) St.empty) (W' : World) {cs : List Value} (hc : VRs (Gh.all W') args cs) :
    Calls P f cs.toArray W' fun e W'' => e = .returned (.bool true) ∧ RowKit.Below W'.heap.size W' W'' := by
  obtain ⟨k, v, S', hv, hk⟩ := bCy (K := fun v _ => v = .bool true) (by rw [h])
  subst hv
  exact aJw hp hk W' hc
end Go.AM
namespace Go.Proofs.YtoaibmbldmckaaaGreat
open Go.ChangeMaps Go.ChangeShapes Go.WideShapes Go.ChangeAt Go.RowKit Go.AM
set_option maxRecDepth 100000
theorem Tryz.own : ownKnob Tryz.prog.godebug = none := by kernel_rfl
theorem Tryz.laidOut : laidOutB Tryz.prog = true := by kernel_rfl
theorem imagePuts_lifted (os : Os) (started : os.Started) (H : Type) (enc : TypeId × Value → H) :
    ReturnsInHanded {} Tryz.checked os 13 .any (Rows.imagePutsSpec.pre6 enc Tryz.prog Tryz.f13 Rows.imagePutsRow.domain false) (Rows.imagePutsSpec.post enc Tryz.prog Tryz.f13 false true false false) := by
  refine returnsInHanded_of_change (C := Tryz.checked) Tryz.own started (by kernel_rfl) Tryz.func13
    (ChangeSpec.witness6 (enc := enc) (C := Tryz.checked) false ⟨#[], #[.slice none 0 0], []⟩ 8 (by kernel_rfl) (by kernel_rfl) (by kernel_rfl) (by kernel_rfl)) ?_
  intro W base args ds gs before hval0 hW _ _
  have hval : ∀ (j : Nat) t v, Tryz.f13.params[j]? = some t → args[j]? = some v → Value.okWide Tryz.prog W .any base t v := hval0
  have hW' := hW
  obtain ⟨p, q, hA0, hV, rfl, _, _⟩ := hW
  have hA : DataW.TrodAll enc Tryz.prog W 0 (fun _ => true) true Tryz.f13.params.toList args.toList ds p := hA0
  rw [Tryz.params13] at hA hval
  obtain ⟨v0, d0, rfl, rfl, h0⟩ := trodAll_one hA
  obtain ⟨rfl, rfl⟩ := trodVars_none hV
  have hlt := hW'.lt
  obtain ⟨x0, n0, hx0, hs0⟩ := aD9 Tryz.underlying44 (d := 20) (by kernel_rfl) (hval 0 44 v0 rfl rfl) h0
  obtain ⟨y0, hy0⟩ := aV9 hs0
  cases hy0
  refine (bCw aQj (fun K => g13 y0 St.empty K) W (.cons _ _ _ _ hx0 .nil)).mono fun e W' ⟨he, hw⟩ => ?_
  subst he
  exact ⟨_, rfl, aEn (pv := []) hW' (fun b sp hd => aQr Tryz.underlying4 b sp hd) (fun sp hsp => trodAll_mk1 (aQs Tryz.laidOut (by kernel_rfl) (Nat.le_of_ble_eq_true (by kernel_rfl)) h0 hw (fun x hx => hlt x (by simp [hx])) (fun x hx => hsp x (by simp [hx])))) (fun _ _ => rfl) (by simp) (aEo hw _)⟩
theorem aAw : Tryz.pinned.checked.prog.funcNamed Rows.imagePutsRow.func = some 13 := by kernel_rfl
set_option maxHeartbeats 20000000 in
theorem aAx : joinedFacts Tryz.pinned.checked.prog 13 Tryz.f13 Rows.imagePutsSpec Rows.imagePutsRow = true := by
  unfold joinedFacts
  simp only [Bool.and_eq_true]
  and_intros <;> decide +kernel
theorem aBv : Tryz.f13.isInstance Tryz.pinned.checked.prog Rows.imagePutsRow.origin Rows.imagePutsRow.targs := of_decide_eq_true (by kernel_rfl)
theorem aBw : Tryz.f13.isWrapper Tryz.pinned.checked.prog Rows.imagePutsRow.wrapper Rows.imagePutsRow.mainSum := by unfold Func.isWrapper; first | (rw [if_pos (by decide +kernel)]; kernel_rfl) | (rw [if_neg (by decide +kernel)]; exact ⟨rfl, rfl⟩)
theorem imagePuts_holds : Rows.ImagePutsSaid :=
  OpenClaim.holds_of_wide 13 Tryz.f13 rfl rfl rfl rfl rfl rfl rfl ⟨rfl, rfl, rfl, rfl, rfl⟩ rfl rfl rfl rfl rfl aAw Tryz.func13 aAx aBv aBw
    (fun os started H enc _ => imagePuts_lifted os started H enc)
end Go.Proofs.YtoaibmbldmckaaaGreat
