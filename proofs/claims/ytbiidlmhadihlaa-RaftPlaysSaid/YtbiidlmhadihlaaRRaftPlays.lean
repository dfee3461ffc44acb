/-
  RaftPlays: whatever the arguments and whatever the order, the call returns true and turns nothing. The code that is reached is walked once over the abstract machine of the Am texts; what it comes to is a plain function of plain data, of which the law is shown; no condition.
-/
import Derived.Carry
import Derived.Test.YtbiidlmhadihlaaRows
import Derived.Test.YtbiidlmhadihlaaX5
namespace Go.Proofs.Ytbiidlmhadihlaa
open Go.ChangeShapes Go.WideShapes Go.ChangeAt Go.RowKit Go.AM
set_option maxRecDepth 100000
theorem Try.own : ownKnob Try.prog.godebug = none := by kernel_rfl
theorem Try.laidOut : laidOutB Try.prog = true := by kernel_rfl
theorem raftPlays_lifted (os : Os) (started : os.Started) (H : Type) (enc : TypeId × Value → H) :
    ReturnsInHanded {} Try.checked os 3 .any (Rows.raftPlaysSpec.pre6 enc Try.prog Try.f3 Rows.raftPlaysRow.domain false) (Rows.raftPlaysSpec.post enc Try.prog Try.f3 false true false false) := by
  refine returnsInHanded_of_change (C := Try.checked) Try.own started (by kernel_rfl) Try.func3
    (ChangeSpec.witness6 (enc := enc) (C := Try.checked) false ⟨#[], #[.int .i64 0, .agg #[.int .i64 0, .int .i64 0, .int .i64 0, .int .i64 0, .int .i64 0, .string ByteArray.empty, .slice none 0 0], .int .i64 0, .slice none 0 0], []⟩ 8 (by kernel_rfl) (by kernel_rfl) (by kernel_rfl) (by kernel_rfl)) ?_
  intro W base args ds gs before hval0 hW _ _
  have hval : ∀ (j : Nat) t v, Try.f3.params[j]? = some t → args[j]? = some v → Value.okWide Try.prog W .any base t v := hval0
  have hW' := hW
  obtain ⟨p, q, hA0, hV, rfl, _, _⟩ := hW
  have hA : DataW.TrodAll enc Try.prog W 0 (fun _ => true) true Try.f3.params.toList args.toList ds p := hA0
  rw [Try.params3] at hA hval
  obtain ⟨v0, v1, v2, v3, d0, d1, d2, d3, p0, p1, p2, p3, rfl, rfl, rfl, h0, h1, h2, h3⟩ := trodAll_four hA
  obtain ⟨rfl, rfl⟩ := trodVars_none hV
  have hlt := hW'.lt
  obtain ⟨b0, rfl, rfl, rfl, hwb0⟩ := open_int Try.underlying3 (hval 0 3 v0 rfl rfl) h0
  obtain ⟨x1, n1, hx1, hs1⟩ := xD Try.underlying24 (d := 20) (by kernel_rfl) (hval 1 24 v1 rfl rfl) h1
  obtain ⟨g1, lv1, hq1, sl1, bl1, ll1⟩ := aQb hs1
  subst hq1
  obtain ⟨b2, rfl, rfl, rfl, hwb2⟩ := open_int Try.underlying3 (hval 2 3 v2 rfl rfl) h2
  obtain ⟨x3, n3, hx3, hs3⟩ := aAy Try.underlying25 (d := 20) (by kernel_rfl) (hval 3 25 v3 rfl rfl) h3
  obtain ⟨qs3, av3, hq3, sl3, bl3, ok3⟩ := aQc hs3
  cases hq3
  refine (Does.calls aLo (g3 ok3 sl3 b0 b2 g1 lv1 St.empty aOb (sl1 _)) W (.cons _ _ _ _ (.int _ _) (.cons _ _ _ _ hx1 (.cons _ _ _ _ (.int _ _) (.cons _ _ _ _ hx3 .nil))))).mono fun e W' ⟨he, hw⟩ => ?_
  subst he
  exact ⟨_, rfl, aBm (pv := []) hW' (fun b sp hd => aM1 Try.underlying4 b sp hd) (fun sp hsp => trodAll_mk4 (shut_int Try.underlying3 hwb0) (aCz Try.laidOut (by kernel_rfl) (Nat.le_of_ble_eq_true (by kernel_rfl)) h1 hw (fun x hx => hlt x (by simp [hx])) (fun x hx => hsp x (by simp [hx]))) (shut_int Try.underlying3 hwb2) (aCz Try.laidOut (by kernel_rfl) (Nat.le_of_ble_eq_true (by kernel_rfl)) h3 hw (fun x hx => hlt x (by simp [hx])) (fun x hx => hsp x (by simp [hx])))) (fun _ _ => rfl) (by simp) (aBn hw _)⟩
theorem raftPlays_holds : Rows.RaftPlaysSaid :=
  OpenClaim.holds_of_wide 3 Try.f3 rfl rfl rfl rfl rfl rfl rfl ⟨rfl, rfl, rfl, rfl, rfl⟩ rfl rfl rfl rfl rfl (by kernel_rfl) Try.func3 (by kernel_rfl)
    (of_decide_eq_true (by kernel_rfl)) (by unfold Func.isWrapper; first | (rw [if_pos (by decide +kernel)]; kernel_rfl) | (rw [if_neg (by decide +kernel)]; exact ⟨rfl, rfl⟩))
    (fun os started H enc _ => raftPlays_lifted os started H enc)
end Go.Proofs.Ytbiidlmhadihlaa
