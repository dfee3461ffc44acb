/-
  RaftPieces: whatever the arguments and whatever the order, the call returns true and turns nothing. The code that is reached is walked once over the abstract machine of the Am texts; what it comes to is a plain function of plain data, of which the law is shown; no condition.
-/
import Derived.Carry
import Derived.Test.YtbiidlmhadihlaaRows
import Derived.Test.YtbiidlmhadihlaaX4
namespace Go.Proofs.Ytbiidlmhadihlaa
open Go.ChangeShapes Go.WideShapes Go.ChangeAt Go.RowKit Go.AM
set_option maxRecDepth 100000
theorem Try.own : ownKnob Try.prog.godebug = none := by kernel_rfl
theorem Try.laidOut : laidOutB Try.prog = true := by kernel_rfl
theorem raftPieces_lifted (os : Os) (started : os.Started) (H : Type) (enc : TypeId × Value → H) :
    ReturnsInHanded {} Try.checked os 7 .any (Rows.raftPiecesSpec.pre6 enc Try.prog Try.f7 Rows.raftPiecesRow.domain false) (Rows.raftPiecesSpec.post enc Try.prog Try.f7 false true false false) := by
  refine returnsInHanded_of_change (C := Try.checked) Try.own started (by kernel_rfl) Try.func7
    (ChangeSpec.witness6 (enc := enc) (C := Try.checked) false ⟨#[], #[.int .i64 0, .slice none 0 0], []⟩ 8 (by kernel_rfl) (by kernel_rfl) (by kernel_rfl) (by kernel_rfl)) ?_
  intro W base args ds gs before hval0 hW _ _
  have hval : ∀ (j : Nat) t v, Try.f7.params[j]? = some t → args[j]? = some v → Value.okWide Try.prog W .any base t v := hval0
  have hW' := hW
  obtain ⟨p, q, hA0, hV, rfl, _, _⟩ := hW
  have hA : DataW.TrodAll enc Try.prog W 0 (fun _ => true) true Try.f7.params.toList args.toList ds p := hA0
  rw [Try.params7] at hA hval
  obtain ⟨v0, v1, d0, d1, p0, p1, rfl, rfl, rfl, h0, h1⟩ := trodAll_two hA
  obtain ⟨rfl, rfl⟩ := trodVars_none hV
  have hlt := hW'.lt
  obtain ⟨b0, rfl, rfl, rfl, hwb0⟩ := open_int Try.underlying3 (hval 0 3 v0 rfl rfl) h0
  obtain ⟨x1, n1, hx1, hs1⟩ := xW Try.underlying72 (d := 20) (by kernel_rfl) (hval 1 72 v1 rfl rfl) h1
  obtain ⟨qs1, av1, hq1, sl1⟩ := aLr hs1
  cases hq1
  refine (Does.calls aIf (letI : Go.Raft.Guard := ⟨0⟩; g7 b0 x1 qs1 St.empty aL8 sl1) W (.cons _ _ _ _ (.int _ _) (.cons _ _ _ _ hx1 .nil))).mono fun e W' ⟨he, hw⟩ => ?_
  subst he
  exact ⟨_, rfl, yU (pv := []) hW' (fun b sp hd => aIq Try.underlying4 b sp hd) (fun sp hsp => trodAll_mk2 (shut_int Try.underlying3 hwb0) (aIr Try.laidOut (by kernel_rfl) (Nat.le_of_ble_eq_true (by kernel_rfl)) h1 hw (fun x hx => hlt x (by simp [hx])) (fun x hx => hsp x (by simp [hx])))) (fun _ _ => rfl) (by simp) (yV hw _)⟩
theorem raftPieces_holds : Rows.RaftPiecesSaid :=
  OpenClaim.holds_of_wide 7 Try.f7 rfl rfl rfl rfl rfl rfl rfl ⟨rfl, rfl, rfl, rfl, rfl⟩ rfl rfl rfl rfl rfl (by kernel_rfl) Try.func7 (by kernel_rfl)
    (of_decide_eq_true (by kernel_rfl)) (by unfold Func.isWrapper; first | (rw [if_pos (by decide +kernel)]; kernel_rfl) | (rw [if_neg (by decide +kernel)]; exact ⟨rfl, rfl⟩))
    (fun os started H enc _ => raftPieces_lifted os started H enc)
end Go.Proofs.Ytbiidlmhadihlaa
