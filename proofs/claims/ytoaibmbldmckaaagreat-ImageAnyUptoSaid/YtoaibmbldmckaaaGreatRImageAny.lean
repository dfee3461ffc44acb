/-
  ImageAny: whatever the arguments and whatever the order, the call returns true and turns nothing. The code that is reached is walked once over the abstract machine of the Am texts; what it comes to is a plain function of plain data, of which the law is shown; no condition.
-/
import Derived.Carry
import Derived.ChangeMaps5
import Derived.JoinedCond
import Derived.Test.YtoaibmbldmckaaaGreatRows
import Derived.Test.YtoaibmbldmckaaaGreatX4
namespace Go.AM
theorem aWc {P : Program} {pl : gO} (hp : PlansOK P pl) {f : FuncId} {args : List V} (h : ∀ K : KW, W P pl f args St.empty K = K (.bool true) St.empty) (W' : World) {cs : List Value} (hc : VRs (Gh.all W') args cs) :
    Calls P f cs.toArray W' fun e W'' => e = .returned (.bool true) ∧ RowKit.Below W'.heap.size W' W'' := by
  obtain ⟨k, v, S', hv, hk⟩ := aWg (K := fun v _ => v = .bool true) (by rw [h])
  subst hv
  exact aFf hp hk W' hc
end Go.AM
namespace Go.Proofs.YtoaibmbldmckaaaGreat
open Go.ChangeMaps Go.ChangeShapes Go.WideShapes Go.ChangeAt Go.RowKit Go.AM
set_option maxRecDepth 100000
theorem Tryz.own : ownKnob Tryz.prog.godebug = none := by kernel_rfl
theorem Tryz.laidOut : laidOutB Tryz.prog = true := by kernel_rfl
theorem aLv {H : Type} : ∀ d : DataW H, 1 ≤ Rows.uptoBulk d := by
  intro d
  unfold Rows.uptoBulk
  split <;> omega
theorem aDw {H : Type} : ∀ l : List (DataW H), l.length ≤ Rows.uptoBulkAll l
  | [] => Nat.zero_le _
  | d :: l => by
    have h1 := aLv d
    have h2 := aDw l
    simp only [Rows.uptoBulkAll, List.length_cons]
    omega
theorem xJ {H : Type} : ∀ {l : List (DataW H)} {d : DataW H}, d ∈ l → Rows.uptoBulk d ≤ Rows.uptoBulkAll l
  | e :: l, d, h => by
    rcases List.mem_cons.1 h with rfl | h
    · simp only [Rows.uptoBulkAll]; omega
    · have := xJ h
      simp only [Rows.uptoBulkAll]; omega
theorem aFx {H : Type} (l r : List (DataW H)) (h : Rows.uptoBulk (.slice l r) ≤ 1048576) : l.length ≤ 1048576 ∧ ∀ d ∈ l, Rows.uptoBulk d ≤ 1048576 := by
  simp only [Rows.uptoBulk] at h
  exact ⟨by have := aDw l; omega, fun d hd => by have := xJ hd; omega⟩
theorem aLw {H : Type} (l : List (DataW H)) (h : Rows.uptoBulk (.agg l) ≤ 1048576) : ∀ d ∈ l, Rows.uptoBulk d ≤ 1048576 := by
  simp only [Rows.uptoBulk] at h
  exact fun d hd => by have := xJ hd; omega
theorem imageAny_lifted (os : Os) (started : os.Started) (H : Type) (enc : TypeId × Value → H) (F : Stop.Interp) :
    ReturnsInHanded {} Tryz.checked os 4 .any ((Rows.OpenSpec.upto Rows.imageAnySpec).pre6 enc Tryz.prog Tryz.f4 Rows.imageAnyUptoRow.domain false) (((Rows.OpenSpec.upto Rows.imageAnySpec).at F).post enc Tryz.prog Tryz.f4 false true false false) := by
  refine returnsInHanded_of_cond (C := Tryz.checked) (s := (Rows.OpenSpec.upto Rows.imageAnySpec)) (k := Rows.uptoSmall) rfl Tryz.own started (by kernel_rfl) Tryz.func4
    (OpenSpec.witness (enc := enc) (C := Tryz.checked) (s := (Rows.OpenSpec.upto Rows.imageAnySpec)) (x := ([.agg [.nil, .nil, .nil, .nil, .nil, .lit (.int .i64 0)]], [], [])) (k := Rows.uptoSmall) rfl false ⟨#[], #[.agg #[.slice none 0 0, .slice none 0 0, .slice none 0 0, .slice none 0 0, .slice none 0 0, .int .i64 0]], []⟩ 8 (by kernel_rfl) (by kernel_rfl) (by kernel_rfl) (by kernel_rfl) (by kernel_rfl) (by kernel_rfl)) ?_
  intro W base args ds gs before hval0 hW _ hk _
  have hval : ∀ (j : Nat) t v, Tryz.f4.params[j]? = some t → args[j]? = some v → Value.okWide Tryz.prog W .any base t v := hval0
  have hW' := hW
  obtain ⟨p, q, hA0, hV, rfl, _, _⟩ := hW
  have hA : DataW.TrodAll enc Tryz.prog W 0 (fun _ => true) true Tryz.f4.params.toList args.toList ds p := hA0
  rw [Tryz.params4] at hA hval
  obtain ⟨v0, d0, rfl, rfl, h0⟩ := trodAll_one hA
  obtain ⟨rfl, rfl⟩ := trodVars_none hV
  have hlt := hW'.lt
  have hb0 : Rows.uptoBulk d0 ≤ 1048576 := by
    have h := hk
    simp only [Rows.uptoSmall, List.append_nil, Rows.uptoBulkAll, decide_eq_true_eq] at h
    omega
  obtain ⟨x0, n0, hx0, hs0, hl0⟩ := vY (B := 1048576) (Q := fun d => Rows.uptoBulk d ≤ 1048576) aFx aLw Tryz.underlying30 (d := 20) (by kernel_rfl) (hval 0 30 v0 rfl rfl) h0 hb0
  obtain ⟨y0, hy0⟩ := aQb hs0
  subst hy0
  refine (aWc aL7 (fun K => g4 y0 (aDt hs0).1 (aDt hs0).2.1 (aDt hs0).2.2 (aSc hl0) St.empty K) W (.cons _ _ _ _ hx0 .nil)).mono fun e W' ⟨he, hw⟩ => ?_
  subst he
  exact ⟨_, rfl, aAm (pv := []) hW' (fun b sp hd => aLf Tryz.underlying4 b sp hd) (fun sp hsp => trodAll_mk1 (aLg Tryz.laidOut (by kernel_rfl) (Nat.le_of_ble_eq_true (by kernel_rfl)) h0 hw (fun x hx => hlt x (by simp [hx])) (fun x hx => hsp x (by simp [hx])))) (fun _ _ => rfl) (by simp) (aAn hw _)⟩
theorem xK : Tryz.pinned.checked.prog.funcNamed Rows.imageAnyUptoRow.func = some 4 := by kernel_rfl
set_option maxHeartbeats 20000000 in
theorem xL : joinedFacts Tryz.pinned.checked.prog 4 Tryz.f4 (Rows.OpenSpec.upto Rows.imageAnySpec).bare Rows.imageAnyUptoRow = true := by
  unfold joinedFacts
  simp only [Bool.and_eq_true]
  and_intros <;> decide +kernel
theorem aA7 : Tryz.f4.isInstance Tryz.pinned.checked.prog Rows.imageAnyUptoRow.origin Rows.imageAnyUptoRow.targs := of_decide_eq_true (by kernel_rfl)
theorem aA8 : Tryz.f4.isWrapper Tryz.pinned.checked.prog Rows.imageAnyUptoRow.wrapper Rows.imageAnyUptoRow.mainSum := by unfold Func.isWrapper; first | (rw [if_pos (by decide +kernel)]; kernel_rfl) | (rw [if_neg (by decide +kernel)]; exact ⟨rfl, rfl⟩)
theorem imageAny_holds : Rows.ImageAnyUptoSaid :=
  OpenClaim.holds_of_cond 4 Tryz.f4 rfl rfl rfl rfl rfl rfl rfl ⟨rfl, rfl, rfl, rfl, rfl⟩ rfl rfl rfl rfl rfl xK Tryz.func4 xL aA7 aA8
    (fun os started H enc _ F => by rw [OpenClaim.pre_of_none' rfl]; exact imageAny_lifted os started H enc F)
end Go.Proofs.YtoaibmbldmckaaaGreat
