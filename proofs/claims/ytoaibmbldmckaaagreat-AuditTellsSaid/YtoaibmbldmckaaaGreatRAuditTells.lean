/-
  AuditTells: whatever the arguments and whatever the order, the call returns true and turns nothing. The code that is reached is walked once over the abstract machine of the Am texts; what it comes to is a plain function of plain data, of which the law is shown; no condition.
-/
import Derived.Carry
import Derived.ChangeMaps5
import Derived.Test.YtoaibmbldmckaaaGreatRows
import Derived.Test.YtoaibmbldmckaaaGreatX5
namespace Go.AM
theorem bBi {P : Program} {pl : lB} (hp : PlansOK P pl) {f : FuncId} {args : List V} (h : ∀ K : KW, W P pl f args St.empty K = K (.bool true) St.empty) (W' : World) {cs : List Value} (hc : VRs (Gh.all W') args cs) :
    Calls P f cs.toArray W' fun e W'' => e = .returned (.bool true) ∧ RowKit.Below W'.heap.size W' W'' := by
  obtain ⟨k, v, S', hv, hk⟩ := bBj (K := fun v _ => v = .bool true) (by rw [h])
  subst hv
  exact aJ2 hp hk W' hc
end Go.AM
namespace Go.Proofs.YtoaibmbldmckaaaGreat
open Go.ChangeMaps Go.ChangeShapes Go.WideShapes Go.ChangeAt Go.RowKit Go.AM
set_option maxRecDepth 100000
theorem Tryz.own : ownKnob Tryz.prog.godebug = none := by kernel_rfl
theorem Tryz.laidOut : laidOutB Tryz.prog = true := by kernel_rfl
theorem auditTells_lifted (os : Os) (started : os.Started) (H : Type) (enc : TypeId × Value → H) :
    ReturnsInHanded {} Tryz.checked os 7 .any (Rows.auditTellsSpec.pre6 enc Tryz.prog Tryz.f7 Rows.auditTellsRow.domain false) (Rows.auditTellsSpec.post enc Tryz.prog Tryz.f7 false true false false) := by
  refine returnsInHanded_of_change (C := Tryz.checked) Tryz.own started (by kernel_rfl) Tryz.func7
    (ChangeSpec.witness6 (enc := enc) (C := Tryz.checked) false ⟨#[], #[.slice none 0 0, .agg #[.int .i64 0, .int .i64 0, .int .i64 0], .agg #[.int .i64 0, .int .i64 0, .int .i64 0], .slice none 0 0], []⟩ 8 (by kernel_rfl) (by kernel_rfl) (by kernel_rfl) (by kernel_rfl)) ?_
  intro W base args ds gs before hval0 hW _ _
  have hval : ∀ (j : Nat) t v, Tryz.f7.params[j]? = some t → args[j]? = some v → Value.okWide Tryz.prog W .any base t v := hval0
  have hW' := hW
  obtain ⟨p, q, hA0, hV, rfl, _, _⟩ := hW
  have hA : DataW.TrodAll enc Tryz.prog W 0 (fun _ => true) true Tryz.f7.params.toList args.toList ds p := hA0
  rw [Tryz.params7] at hA hval
  obtain ⟨v0, v1, v2, v3, d0, d1, d2, d3, p0, p1, p2, p3, rfl, rfl, rfl, h0, h1, h2, h3⟩ := trodAll_four hA
  obtain ⟨rfl, rfl⟩ := trodVars_none hV
  have hlt := hW'.lt
  obtain ⟨x0, n0, hx0, hs0⟩ := tM Tryz.underlying44 (d := 20) (by kernel_rfl) (hval 0 44 v0 rfl rfl) h0
  obtain ⟨y0, hy0⟩ := aU9 hs0
  cases hy0
  obtain ⟨x1, n1, hx1, hs1⟩ := rU Tryz.underlying52 (d := 20) (by kernel_rfl) (hval 1 52 v1 rfl rfl) h1
  obtain ⟨y1, hy1⟩ := yV hs1
  subst hy1
  obtain ⟨x2, n2, hx2, hs2⟩ := rU Tryz.underlying52 (d := 20) (by kernel_rfl) (hval 2 52 v2 rfl rfl) h2
  obtain ⟨y2, hy2⟩ := yV hs2
  subst hy2
  obtain ⟨x3, n3, hx3, hs3⟩ := tM Tryz.underlying26 (d := 20) (by kernel_rfl) (hval 3 26 v3 rfl rfl) h3
  obtain ⟨y3, hy3⟩ := aVe hs3
  cases hy3
  refine (bBi aPf (fun K => g7 y0 y1 y2 y3 St.empty K) W (.cons _ _ _ _ hx0 (.cons _ _ _ _ hx1 (.cons _ _ _ _ hx2 (.cons _ _ _ _ hx3 .nil))))).mono fun e W' ⟨he, hw⟩ => ?_
  subst he
  exact ⟨_, rfl, aE9 (pv := []) hW' (fun b sp hd => aPq Tryz.underlying4 b sp hd) (fun sp hsp => trodAll_mk4 (uM Tryz.laidOut (by kernel_rfl) (Nat.le_of_ble_eq_true (by kernel_rfl)) h0 hw (fun x hx => hlt x (by simp [hx])) (fun x hx => hsp x (by simp [hx]))) (uM Tryz.laidOut (by kernel_rfl) (Nat.le_of_ble_eq_true (by kernel_rfl)) h1 hw (fun x hx => hlt x (by simp [hx])) (fun x hx => hsp x (by simp [hx]))) (uM Tryz.laidOut (by kernel_rfl) (Nat.le_of_ble_eq_true (by kernel_rfl)) h2 hw (fun x hx => hlt x (by simp [hx])) (fun x hx => hsp x (by simp [hx]))) (uM Tryz.laidOut (by kernel_rfl) (Nat.le_of_ble_eq_true (by kernel_rfl)) h3 hw (fun x hx => hlt x (by simp [hx])) (fun x hx => hsp x (by simp [hx])))) (fun _ _ => rfl) (by simp) (aEa hw _)⟩
theorem zC : Tryz.pinned.checked.prog.funcNamed Rows.auditTellsRow.func = some 7 := by kernel_rfl
set_option maxHeartbeats 20000000 in
theorem zD : joinedFacts Tryz.pinned.checked.prog 7 Tryz.f7 Rows.auditTellsSpec Rows.auditTellsRow = true := by
  unfold joinedFacts
  simp only [Bool.and_eq_true]
  and_intros <;> decide +kernel
theorem aB7 : Tryz.f7.isInstance Tryz.pinned.checked.prog Rows.auditTellsRow.origin Rows.auditTellsRow.targs := of_decide_eq_true (by kernel_rfl)
theorem aB8 : Tryz.f7.isWrapper Tryz.pinned.checked.prog Rows.auditTellsRow.wrapper Rows.auditTellsRow.mainSum := by unfold Func.isWrapper; first | (rw [if_pos (by decide +kernel)]; kernel_rfl) | (rw [if_neg (by decide +kernel)]; exact ⟨rfl, rfl⟩)
theorem auditTells_holds : Rows.AuditTellsSaid :=
  OpenClaim.holds_of_wide 7 Tryz.f7 rfl rfl rfl rfl rfl rfl rfl ⟨rfl, rfl, rfl, rfl, rfl⟩ rfl rfl rfl rfl rfl zC Tryz.func7 zD aB7 aB8
    (fun os started H enc _ => auditTells_lifted os started H enc)
end Go.Proofs.YtoaibmbldmckaaaGreat
