/-
  ImageGets: whatever the arguments and whatever the order, the call returns true and turns nothing. The code that is reached is walked once over the abstract machine of the Am texts; what it comes to is a plain function of plain data, of which the law is shown; no condition.
-/
import Derived.Carry
import Derived.ChangeMaps5
import Derived.JoinedCond
import Derived.Test.YtoaibmbldmckaaaGreatRows
import Derived.Test.YtoaibmbldmckaaaGreatX5
namespace Go.AM
theorem aY7 {P : Program} {pl : gX} (hp : PlansOK P pl) {f : FuncId} {args : List V} (h : ∀ K : KW, W P pl f args St.empty K = K (.bool true) St.empty) (W' : World) {cs : List Value} (hc : VRs (Gh.all W') args cs) :
    Calls P f cs.toArray W' fun e W'' => e = .returned (.bool true) ∧ RowKit.Below W'.heap.size W' W'' := by
  obtain ⟨k, v, S', hv, hk⟩ := aYe (K := fun v _ => v = .bool true) (by rw [h])
  subst hv
  exact aGw hp hk W' hc
end Go.AM
namespace Go.Proofs.YtoaibmbldmckaaaGreat
open Go.ChangeMaps Go.ChangeShapes Go.WideShapes Go.ChangeAt Go.RowKit Go.AM
set_option maxRecDepth 100000
theorem Tryz.own : ownKnob Tryz.prog.godebug = none := by kernel_rfl
theorem Tryz.laidOut : laidOutB Tryz.prog = true := by kernel_rfl
theorem aNk {H : Type} : ∀ d : DataW H, 1 ≤ Rows.uptoBulk d := by
  intro d
  unfold Rows.uptoBulk
  split <;> omega
theorem aFd {H : Type} : ∀ l : List (DataW H), l.length ≤ Rows.uptoBulkAll l
  | [] => Nat.zero_le _
  | d :: l => by
    have h1 := aNk d
    have h2 := aFd l
    simp only [Rows.uptoBulkAll, List.length_cons]
    omega
theorem imageGets_lifted (os : Os) (started : os.Started) (H : Type) (enc : TypeId × Value → H) (F : Stop.Interp) :
    ReturnsInHanded {} Tryz.checked os 3 .any ((Rows.OpenSpec.upto Rows.imageGetsSpec).pre6 enc Tryz.prog Tryz.f3 Rows.imageGetsUptoRow.domain false) (((Rows.OpenSpec.upto Rows.imageGetsSpec).at F).post enc Tryz.prog Tryz.f3 false true false false) := by
  refine returnsInHanded_of_cond (C := Tryz.checked) (s := (Rows.OpenSpec.upto Rows.imageGetsSpec)) (k := Rows.uptoSmall) rfl Tryz.own started (by kernel_rfl) Tryz.func3
    (OpenSpec.witness (enc := enc) (C := Tryz.checked) (s := (Rows.OpenSpec.upto Rows.imageGetsSpec)) (x := ([.nil], [], [])) (k := Rows.uptoSmall) rfl false ⟨#[], #[.slice none 0 0], []⟩ 8 (by kernel_rfl) (by kernel_rfl) (by kernel_rfl) (by kernel_rfl) (by kernel_rfl) (by kernel_rfl)) ?_
  intro W base args ds gs before hval0 hW _ hk _
  have hval : ∀ (j : Nat) t v, Tryz.f3.params[j]? = some t → args[j]? = some v → Value.okWide Tryz.prog W .any base t v := hval0
  have hW' := hW
  obtain ⟨p, q, hA0, hV, rfl, _, _⟩ := hW
  have hA : DataW.TrodAll enc Tryz.prog W 0 (fun _ => true) true Tryz.f3.params.toList args.toList ds p := hA0
  rw [Tryz.params3] at hA hval
  obtain ⟨v0, d0, rfl, rfl, h0⟩ := trodAll_one hA
  obtain ⟨rfl, rfl⟩ := trodVars_none hV
  have hlt := hW'.lt
  obtain ⟨x0, n0, hx0, hs0⟩ := aB2 Tryz.underlying22 (d := 20) (by kernel_rfl) (hval 0 22 v0 rfl rfl) h0
  obtain ⟨y0, hy0⟩ := aSb hs0
  cases hy0
  have hl0 : y0.length < 1000000000 := by
    have hq := aNj Tryz.underlying22 h0 hx0
    rcases hq with ⟨_, hq⟩ | ⟨e1, e2, rfl, hq⟩
    · have := congrArg List.length hq
      rw [List.length_map] at this
      rw [this]; decide
    · rw [List.length_map] at hq
      have hb := aFd e1
      have h := hk
      simp only [Rows.uptoSmall, List.append_nil, Rows.uptoBulkAll, Rows.uptoBulk, decide_eq_true_eq] at h
      omega
  refine (aY7 aMl (fun K => g3 y0 hl0 St.empty K) W (.cons _ _ _ _ hx0 .nil)).mono fun e W' ⟨he, hw⟩ => ?_
  subst he
  exact ⟨_, rfl, aC7 (pv := []) hW' (fun b sp hd => aMv Tryz.underlying4 b sp hd) (fun sp hsp => trodAll_mk1 (aMw Tryz.laidOut (by kernel_rfl) (Nat.le_of_ble_eq_true (by kernel_rfl)) h0 hw (fun x hx => hlt x (by simp [hx])) (fun x hx => hsp x (by simp [hx])))) (fun _ _ => rfl) (by simp) (aC8 hw _)⟩
theorem yH : Tryz.pinned.checked.prog.funcNamed Rows.imageGetsUptoRow.func = some 3 := by kernel_rfl
set_option maxHeartbeats 20000000 in
theorem yI : joinedFacts Tryz.pinned.checked.prog 3 Tryz.f3 (Rows.OpenSpec.upto Rows.imageGetsSpec).bare Rows.imageGetsUptoRow = true := by
  unfold joinedFacts
  simp only [Bool.and_eq_true]
  and_intros <;> decide +kernel
theorem zP : Tryz.f3.isInstance Tryz.pinned.checked.prog Rows.imageGetsUptoRow.origin Rows.imageGetsUptoRow.targs := of_decide_eq_true (by kernel_rfl)
theorem zQ : Tryz.f3.isWrapper Tryz.pinned.checked.prog Rows.imageGetsUptoRow.wrapper Rows.imageGetsUptoRow.mainSum := by unfold Func.isWrapper; first | (rw [if_pos (by decide +kernel)]; kernel_rfl) | (rw [if_neg (by decide +kernel)]; exact ⟨rfl, rfl⟩)
theorem imageGets_holds : Rows.ImageGetsUptoSaid :=
  OpenClaim.holds_of_cond 3 Tryz.f3 rfl rfl rfl rfl rfl rfl rfl ⟨rfl, rfl, rfl, rfl, rfl⟩ rfl rfl rfl rfl rfl yH Tryz.func3 yI zP zQ
    (fun os started H enc _ F => by rw [OpenClaim.pre_of_none' rfl]; exact imageGets_lifted os started H enc F)
end Go.Proofs.YtoaibmbldmckaaaGreat
