/-
  AuditBook: whatever the arguments and whatever the order, the call returns true and turns nothing. The code that is reached is walked once over the abstract machine of the Am texts; what it comes to is a plain function of plain data, of which the law is shown; no condition.
-/
import Derived.Carry
import Derived.ChangeMaps5
import Derived.JoinedCond
import Derived.Test.YtoaibmbldmckaaaGreatRows
import Derived.Test.YtoaibmbldmckaaaGreatX5
namespace Go.AM
theorem aYr {P : Program} {pl : eX} (hp : PlansOK P pl) {f : FuncId} {args : List V} (h : ∀ K : KW, W P pl f args St.empty K = K (.bool true) St.empty) (W' : World) {cs : List Value} (hc : VRs (Gh.all W') args cs) :
    Calls P f cs.toArray W' fun e W'' => e = .returned (.bool true) ∧ RowKit.Below W'.heap.size W' W'' := by
  obtain ⟨k, v, S', hv, hk⟩ := aZ5 (K := fun v _ => v = .bool true) (by rw [h])
  subst hv
  exact zD hp hk W' hc
end Go.AM
namespace Go.Proofs.YtoaibmbldmckaaaGreat
open Go.ChangeMaps Go.ChangeShapes Go.WideShapes Go.ChangeAt Go.RowKit Go.AM
set_option maxRecDepth 100000
theorem Tryz.own : ownKnob Tryz.prog.godebug = none := by kernel_rfl
theorem Tryz.laidOut : laidOutB Tryz.prog = true := by kernel_rfl
theorem auditBook_lifted (os : Os) (started : os.Started) (H : Type) (enc : TypeId × Value → H) (F : Stop.Interp) :
    ReturnsInHanded {} Tryz.checked os 9 .any ((Rows.OpenSpec.upto Rows.auditBookSpec).pre6 enc Tryz.prog Tryz.f9 Rows.auditBookUptoRow.domain false) (((Rows.OpenSpec.upto Rows.auditBookSpec).at F).post enc Tryz.prog Tryz.f9 false true false false) := by
  refine returnsInHanded_of_cond (C := Tryz.checked) (s := (Rows.OpenSpec.upto Rows.auditBookSpec)) (k := Rows.uptoSmall) rfl Tryz.own started (by kernel_rfl) Tryz.func9
    (OpenSpec.witness (enc := enc) (C := Tryz.checked) (s := (Rows.OpenSpec.upto Rows.auditBookSpec)) (x := ([.nil, .lit (.string [])], [], [])) (k := Rows.uptoSmall) rfl false ⟨#[], #[.slice none 0 0, .string ByteArray.empty], []⟩ 8 (by kernel_rfl) (by kernel_rfl) (by kernel_rfl) (by kernel_rfl) (by kernel_rfl) (by kernel_rfl)) ?_
  intro W base args ds gs before hval0 hW _ hk _
  have hval : ∀ (j : Nat) t v, Tryz.f9.params[j]? = some t → args[j]? = some v → Value.okWide Tryz.prog W .any base t v := hval0
  have hW' := hW
  obtain ⟨p, q, hA0, hV, rfl, _, _⟩ := hW
  have hA : DataW.TrodAll enc Tryz.prog W 0 (fun _ => true) true Tryz.f9.params.toList args.toList ds p := hA0
  rw [Tryz.params9] at hA hval
  obtain ⟨v0, v1, d0, d1, p0, p1, rfl, rfl, rfl, h0, h1⟩ := trodAll_two hA
  obtain ⟨rfl, rfl⟩ := trodVars_none hV
  have hlt := hW'.lt
  obtain ⟨x0, n0, hx0, hs0⟩ := aBy Tryz.underlying44 (d := 20) (by kernel_rfl) (hval 0 44 v0 rfl rfl) h0
  obtain ⟨y0, hy0⟩ := aQv hs0
  cases hy0
  obtain ⟨y1, rfl, rfl, rfl, hwb1⟩ := open_string Tryz.underlying9 (hval 1 9 v1 rfl rfl) h1
  obtain ⟨⟨y1⟩⟩ := y1
  refine (aYr aNt (fun K => g9 y0 y1 (by have h := hk; simp only [Rows.uptoSmall, Rows.uptoBulkAll, Rows.uptoBulk, List.append_nil, decide_eq_true_eq] at h; omega) St.empty K) W (.cons _ _ _ _ hx0 (.cons _ _ _ _ (.str _) .nil))).mono fun e W' ⟨he, hw⟩ => ?_
  subst he
  exact ⟨_, rfl, aD0 (pv := []) hW' (fun b sp hd => aO4 Tryz.underlying4 b sp hd) (fun sp hsp => trodAll_mk2 (aO5 Tryz.laidOut (by kernel_rfl) (Nat.le_of_ble_eq_true (by kernel_rfl)) h0 hw (fun x hx => hlt x (by simp [hx])) (fun x hx => hsp x (by simp [hx]))) (shut_string Tryz.underlying9 hwb1)) (fun _ _ => rfl) (by simp) (aD1 hw _)⟩
theorem zO : Tryz.pinned.checked.prog.funcNamed Rows.auditBookUptoRow.func = some 9 := by kernel_rfl
set_option maxHeartbeats 20000000 in
theorem zP : joinedFacts Tryz.pinned.checked.prog 9 Tryz.f9 (Rows.OpenSpec.upto Rows.auditBookSpec).bare Rows.auditBookUptoRow = true := by
  unfold joinedFacts
  simp only [Bool.and_eq_true]
  and_intros <;> decide +kernel
theorem aAl : Tryz.f9.isInstance Tryz.pinned.checked.prog Rows.auditBookUptoRow.origin Rows.auditBookUptoRow.targs := of_decide_eq_true (by kernel_rfl)
theorem aAm : Tryz.f9.isWrapper Tryz.pinned.checked.prog Rows.auditBookUptoRow.wrapper Rows.auditBookUptoRow.mainSum := by unfold Func.isWrapper; first | (rw [if_pos (by decide +kernel)]; kernel_rfl) | (rw [if_neg (by decide +kernel)]; exact ⟨rfl, rfl⟩)
theorem auditBook_holds : Rows.AuditBookUptoSaid :=
  OpenClaim.holds_of_cond 9 Tryz.f9 rfl rfl rfl rfl rfl rfl rfl ⟨rfl, rfl, rfl, rfl, rfl⟩ rfl rfl rfl rfl rfl zO Tryz.func9 zP aAl aAm
    (fun os started H enc _ F => by rw [OpenClaim.pre_of_none' rfl]; exact auditBook_lifted os started H enc F)
end Go.Proofs.YtoaibmbldmckaaaGreat
