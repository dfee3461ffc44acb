/-
  ImageBack: whatever the arguments and whatever the order, the call returns true and turns nothing. The code that is reached is walked once over the abstract machine of the Am texts; what it comes to is a plain function of plain data, of which the law is shown; no condition.
-/
import Derived.Carry
import Derived.ChangeMaps5
import Derived.JoinedCond
import Derived.Test.YtoaibmbldmckaaaGreatRows
import Derived.Test.YtoaibmbldmckaaaGreatX5
namespace Go.AM
theorem bDv {P : Program} {pl : iQ} (hp : PlansOK P pl) {f : FuncId} {args : List V} (h : ∀ K : KW, W P pl f args St.empty K = K (.bool true) St.empty) (W' : World) {cs : List Value} (hc : VRs (Gh.all W') args cs) :
    Calls P f cs.toArray W' fun e W'' => e = .returned (.bool true) ∧ RowKit.Below W'.heap.size W' W'' := by
  obtain ⟨k, v, S', hv, hk⟩ := bE0 (K := fun v _ => v = .bool true) (by rw [h])
  subst hv
  exact aKe hp hk W' hc
end Go.AM
namespace Go.Proofs.YtoaibmbldmckaaaGreat
open Go.ChangeMaps Go.ChangeShapes Go.WideShapes Go.ChangeAt Go.RowKit Go.AM
set_option maxRecDepth 100000
theorem Tryz.own : ownKnob Tryz.prog.godebug = none := by kernel_rfl
theorem Tryz.laidOut : laidOutB Tryz.prog = true := by kernel_rfl
theorem aS9 {H : Type} : ∀ d : DataW H, 1 ≤ Rows.uptoBulk d := by
  intro d
  unfold Rows.uptoBulk
  split <;> omega
theorem aIs {H : Type} : ∀ l : List (DataW H), l.length ≤ Rows.uptoBulkAll l
  | [] => Nat.zero_le _
  | d :: l => by
    have h1 := aS9 d
    have h2 := aIs l
    simp only [Rows.uptoBulkAll, List.length_cons]
    omega
theorem imageBack_lifted (os : Os) (started : os.Started) (H : Type) (enc : TypeId × Value → H) (F : Stop.Interp) :
    ReturnsInHanded {} Tryz.checked os 15 .any ((Rows.OpenSpec.upto Rows.imageBackSpec).pre6 enc Tryz.prog Tryz.f15 Rows.imageBackUptoRow.domain false) (((Rows.OpenSpec.upto Rows.imageBackSpec).at F).post enc Tryz.prog Tryz.f15 false true false false) := by
  refine returnsInHanded_of_cond (C := Tryz.checked) (s := (Rows.OpenSpec.upto Rows.imageBackSpec)) (k := Rows.uptoSmall) rfl Tryz.own started (by kernel_rfl) Tryz.func15
    (OpenSpec.witness (enc := enc) (C := Tryz.checked) (s := (Rows.OpenSpec.upto Rows.imageBackSpec)) (x := ([.nil, .nil, .nil], [], [])) (k := Rows.uptoSmall) rfl false ⟨#[], #[.slice none 0 0, .slice none 0 0, .slice none 0 0], []⟩ 8 (by kernel_rfl) (by kernel_rfl) (by kernel_rfl) (by kernel_rfl) (by kernel_rfl) (by kernel_rfl)) ?_
  intro W base args ds gs before hval0 hW _ hk _
  have hval : ∀ (j : Nat) t v, Tryz.f15.params[j]? = some t → args[j]? = some v → Value.okWide Tryz.prog W .any base t v := hval0
  have hW' := hW
  obtain ⟨p, q, hA0, hV, rfl, _, _⟩ := hW
  have hA : DataW.TrodAll enc Tryz.prog W 0 (fun _ => true) true Tryz.f15.params.toList args.toList ds p := hA0
  rw [Tryz.params15] at hA hval
  obtain ⟨v0, v1, v2, d0, d1, d2, p0, p1, p2, rfl, rfl, rfl, h0, h1, h2⟩ := trodAll_three hA
  obtain ⟨rfl, rfl⟩ := trodVars_none hV
  have hlt := hW'.lt
  obtain ⟨x0, n0, hx0, hs0⟩ := nN Tryz.underlying44 (d := 20) (by kernel_rfl) (hval 0 44 v0 rfl rfl) h0
  obtain ⟨y0, hy0⟩ := aKf hs0
  cases hy0
  obtain ⟨x1, n1, hx1, hs1⟩ := nN Tryz.underlying44 (d := 20) (by kernel_rfl) (hval 1 44 v1 rfl rfl) h1
  obtain ⟨y1, hy1⟩ := aKf hs1
  cases hy1
  obtain ⟨x2, n2, hx2, hs2⟩ := nN Tryz.underlying22 (d := 20) (by kernel_rfl) (hval 2 22 v2 rfl rfl) h2
  obtain ⟨y2, hy2⟩ := aXg hs2
  cases hy2
  have hl2 : y2.length < 1000000000 := by
    have hq := aS8 Tryz.underlying22 h2 hx2
    rcases hq with ⟨_, hq⟩ | ⟨e1, e2, rfl, hq⟩
    · have := congrArg List.length hq
      rw [List.length_map] at this
      rw [this]; decide
    · rw [List.length_map] at hq
      have hb := aIs e1
      have h := hk
      simp only [Rows.uptoSmall, List.append_nil, Rows.uptoBulkAll, Rows.uptoBulk, decide_eq_true_eq] at h
      omega
  refine (bDv aR9 (fun K => g15 y0 y1 y2 hl2 St.empty K) W (.cons _ _ _ _ hx0 (.cons _ _ _ _ hx1 (.cons _ _ _ _ hx2 .nil)))).mono fun e W' ⟨he, hw⟩ => ?_
  subst he
  exact ⟨_, rfl, aF1 (pv := []) hW' (fun b sp hd => aRk Tryz.underlying4 b sp hd) (fun sp hsp => trodAll_mk3 (aAb Tryz.laidOut (by kernel_rfl) (Nat.le_of_ble_eq_true (by kernel_rfl)) h0 hw (fun x hx => hlt x (by simp [hx])) (fun x hx => hsp x (by simp [hx]))) (aAb Tryz.laidOut (by kernel_rfl) (Nat.le_of_ble_eq_true (by kernel_rfl)) h1 hw (fun x hx => hlt x (by simp [hx])) (fun x hx => hsp x (by simp [hx]))) (aAb Tryz.laidOut (by kernel_rfl) (Nat.le_of_ble_eq_true (by kernel_rfl)) h2 hw (fun x hx => hlt x (by simp [hx])) (fun x hx => hsp x (by simp [hx])))) (fun _ _ => rfl) (by simp) (aF2 hw _)⟩
theorem aBi : Tryz.pinned.checked.prog.funcNamed Rows.imageBackUptoRow.func = some 15 := by kernel_rfl
set_option maxHeartbeats 20000000 in
theorem aBj : joinedFacts Tryz.pinned.checked.prog 15 Tryz.f15 (Rows.OpenSpec.upto Rows.imageBackSpec).bare Rows.imageBackUptoRow = true := by
  unfold joinedFacts
  simp only [Bool.and_eq_true]
  and_intros <;> decide +kernel
theorem aCf : Tryz.f15.isInstance Tryz.pinned.checked.prog Rows.imageBackUptoRow.origin Rows.imageBackUptoRow.targs := of_decide_eq_true (by kernel_rfl)
theorem aCg : Tryz.f15.isWrapper Tryz.pinned.checked.prog Rows.imageBackUptoRow.wrapper Rows.imageBackUptoRow.mainSum := by unfold Func.isWrapper; first | (rw [if_pos (by decide +kernel)]; kernel_rfl) | (rw [if_neg (by decide +kernel)]; exact ⟨rfl, rfl⟩)
theorem imageBack_holds : Rows.ImageBackUptoSaid :=
  OpenClaim.holds_of_cond 15 Tryz.f15 rfl rfl rfl rfl rfl rfl rfl ⟨rfl, rfl, rfl, rfl, rfl⟩ rfl rfl rfl rfl rfl aBi Tryz.func15 aBj aCf aCg
    (fun os started H enc _ F => by rw [OpenClaim.pre_of_none' rfl]; exact imageBack_lifted os started H enc F)
end Go.Proofs.YtoaibmbldmckaaaGreat
