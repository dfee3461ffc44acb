/-
  RaftAlone: whatever the arguments and whatever the order, the call returns true and turns nothing. The code is run over the abstract machine of the Am texts, by the kernel: the first part for each residue of id and draw, the loop of proposals once for each id, its bound being left open; no condition.
-/
import Derived.Test.YtcdegmbabbgiaaaRows
import Derived.Test.YtcdegmbabbgiaaaAmRow
import Derived.Test.YtcdegmbabbgiaaaAloneGlue
namespace Go.Proofs.Ytcdegmbabbgiaaa
open Go.ChangeShapes Go.WideShapes Go.ChangeAt Go.RowKit Go.AM

theorem Try.own : ownKnob Try.prog.godebug = none := by kernel_rfl
theorem Try.laidOut : laidOutB Try.prog = true := by kernel_rfl

set_option maxRecDepth 100000
theorem alone_all (F : Nat → Option Obj) (W0 : World) : ∀ (r : Nat), r < 7 → ∀ (d : Nat), d < 11 → Go.AM.Good Try.prog Try.f3 F W0 (EndQ Try.prog Try.f3 F W0) aloneC (argsEnv 0 [.res 7 r, .res 11 d, .res 4294967301 255] .nil) ⟨0, .nil⟩
  | 0, _, 0, _ => aX0_0 F W0
  | 0, _, 1, _ => aX0_1 F W0
  | 0, _, 2, _ => aX0_2 F W0
  | 0, _, 3, _ => aX0_3 F W0
  | 0, _, 4, _ => aX0_4 F W0
  | 0, _, 5, _ => aX0_5 F W0
  | 0, _, 6, _ => aX0_6 F W0
  | 0, _, 7, _ => aX0_7 F W0
  | 0, _, 8, _ => aX0_8 F W0
  | 0, _, 9, _ => aX0_9 F W0
  | 0, _, 10, _ => aX0_10 F W0
  | 1, _, 0, _ => aX1_0 F W0
  | 1, _, 1, _ => aX1_1 F W0
  | 1, _, 2, _ => aX1_2 F W0
  | 1, _, 3, _ => aX1_3 F W0
  | 1, _, 4, _ => aX1_4 F W0
  | 1, _, 5, _ => aX1_5 F W0
  | 1, _, 6, _ => aX1_6 F W0
  | 1, _, 7, _ => aX1_7 F W0
  | 1, _, 8, _ => aX1_8 F W0
  | 1, _, 9, _ => aX1_9 F W0
  | 1, _, 10, _ => aX1_10 F W0
  | 2, _, 0, _ => aX2_0 F W0
  | 2, _, 1, _ => aX2_1 F W0
  | 2, _, 2, _ => aX2_2 F W0
  | 2, _, 3, _ => aX2_3 F W0
  | 2, _, 4, _ => aX2_4 F W0
  | 2, _, 5, _ => aX2_5 F W0
  | 2, _, 6, _ => aX2_6 F W0
  | 2, _, 7, _ => aX2_7 F W0
  | 2, _, 8, _ => aX2_8 F W0
  | 2, _, 9, _ => aX2_9 F W0
  | 2, _, 10, _ => aX2_10 F W0
  | 3, _, 0, _ => aX3_0 F W0
  | 3, _, 1, _ => aX3_1 F W0
  | 3, _, 2, _ => aX3_2 F W0
  | 3, _, 3, _ => aX3_3 F W0
  | 3, _, 4, _ => aX3_4 F W0
  | 3, _, 5, _ => aX3_5 F W0
  | 3, _, 6, _ => aX3_6 F W0
  | 3, _, 7, _ => aX3_7 F W0
  | 3, _, 8, _ => aX3_8 F W0
  | 3, _, 9, _ => aX3_9 F W0
  | 3, _, 10, _ => aX3_10 F W0
  | 4, _, 0, _ => aX4_0 F W0
  | 4, _, 1, _ => aX4_1 F W0
  | 4, _, 2, _ => aX4_2 F W0
  | 4, _, 3, _ => aX4_3 F W0
  | 4, _, 4, _ => aX4_4 F W0
  | 4, _, 5, _ => aX4_5 F W0
  | 4, _, 6, _ => aX4_6 F W0
  | 4, _, 7, _ => aX4_7 F W0
  | 4, _, 8, _ => aX4_8 F W0
  | 4, _, 9, _ => aX4_9 F W0
  | 4, _, 10, _ => aX4_10 F W0
  | 5, _, 0, _ => aX5_0 F W0
  | 5, _, 1, _ => aX5_1 F W0
  | 5, _, 2, _ => aX5_2 F W0
  | 5, _, 3, _ => aX5_3 F W0
  | 5, _, 4, _ => aX5_4 F W0
  | 5, _, 5, _ => aX5_5 F W0
  | 5, _, 6, _ => aX5_6 F W0
  | 5, _, 7, _ => aX5_7 F W0
  | 5, _, 8, _ => aX5_8 F W0
  | 5, _, 9, _ => aX5_9 F W0
  | 5, _, 10, _ => aX5_10 F W0
  | 6, _, 0, _ => aX6_0 F W0
  | 6, _, 1, _ => aX6_1 F W0
  | 6, _, 2, _ => aX6_2 F W0
  | 6, _, 3, _ => aX6_3 F W0
  | 6, _, 4, _ => aX6_4 F W0
  | 6, _, 5, _ => aX6_5 F W0
  | 6, _, 6, _ => aX6_6 F W0
  | 6, _, 7, _ => aX6_7 F W0
  | 6, _, 8, _ => aX6_8 F W0
  | 6, _, 9, _ => aX6_9 F W0
  | 6, _, 10, _ => aX6_10 F W0
  | 0, _, d + 11, h => absurd h (by omega)
  | 1, _, d + 11, h => absurd h (by omega)
  | 2, _, d + 11, h => absurd h (by omega)
  | 3, _, d + 11, h => absurd h (by omega)
  | 4, _, d + 11, h => absurd h (by omega)
  | 5, _, d + 11, h => absurd h (by omega)
  | 6, _, d + 11, h => absurd h (by omega)
  | n + 7, h, _, _ => absurd h (by omega)
theorem alone_any (W : World) (a b c : Int) (h0 : 0 ≤ c) (h1 : c ≤ 255) : Calls Try.prog 3 #[.int .i64 a, .int .i64 b, .int .u8 c] W fun e W' => e = .returned (.bool true) ∧ Below W.heap.size W W' := by
  have ha0 := Int.emod_nonneg a (b := 7) (by omega)
  have ha1 := Int.emod_lt_of_pos a (b := 7) (by omega)
  have hb0 := Int.emod_nonneg b (b := 11) (by omega)
  have hb1 := Int.emod_lt_of_pos b (b := 11) (by omega)
  have hv : VRs { Gh.none with sy := fun _ => c } [.res 7 (a % 7).toNat, .res 11 (b % 11).toNat, .res 4294967301 255] [.int .i64 a, .int .i64 b, .int .u8 c] :=
    .cons _ _ _ _ (.res _ _ _ _ (.inl ⟨Nat.le_of_ble_eq_true (by kernel_rfl), rfl, by rw [Int.toNat_of_nonneg ha0]; rfl⟩)) (.cons _ _ _ _ (.res _ _ _ _ (.inl ⟨Nat.le_of_ble_eq_true (by kernel_rfl), rfl, by rw [Int.toNat_of_nonneg hb0]; rfl⟩))
      (.cons _ _ _ _ (.res _ _ _ _ (.inr ⟨Nat.le_of_ble_eq_true (by kernel_rfl), by kernel_rfl, rfl, h0, h1⟩)) .nil))
  exact calls_good (args := [.res 7 (a % 7).toNat, .res 11 (b % 11).toNat, .res 4294967301 255]) Try.func3 alone_body alone_slots (Nat.le_of_ble_eq_true (by kernel_rfl)) W hv (alone_all _ W _ (by omega) _ (by omega))

theorem raftAlone_lifted (os : Os) (started : os.Started) (H : Type) (enc : TypeId × Value → H) :
    ReturnsInHanded {} Try.checked os 3 .any (Rows.raftAloneSpec.pre6 enc Try.prog Try.f3 Rows.raftAloneRow.domain false) (Rows.raftAloneSpec.post enc Try.prog Try.f3 false true false false) := by
  refine returnsInHanded_of_change (C := Try.checked) Try.own started (by kernel_rfl) Try.func3
    (ChangeSpec.witness6 (enc := enc) (C := Try.checked) false ⟨#[], #[.int .i64 0, .int .i64 0, .int .u8 0], []⟩ 8 (by kernel_rfl) (by kernel_rfl) (by kernel_rfl) (by kernel_rfl)) ?_
  intro W base args ds gs before hval0 hW _ _
  have hval : ∀ (j : Nat) t v, Try.f3.params[j]? = some t → args[j]? = some v → Value.okWide Try.prog W .any base t v := hval0
  have hW' := hW
  obtain ⟨p, q, hA0, hV, rfl, _, _⟩ := hW
  have hA : DataW.TrodAll enc Try.prog W 0 (fun _ => true) true Try.f3.params.toList args.toList ds p := hA0
  rw [Try.params3] at hA hval
  obtain ⟨v0, v1, v2, d0, d1, d2, p0, p1, p2, rfl, rfl, rfl, h0, h1, h2⟩ := trodAll_three hA
  obtain ⟨a, rfl, rfl, rfl, hwa⟩ := open_int Try.underlying3 (hval 0 3 v0 rfl rfl) h0
  obtain ⟨b, rfl, rfl, rfl, hwb⟩ := open_int Try.underlying3 (hval 1 3 v1 rfl rfl) h1
  obtain ⟨c, rfl, rfl, rfl, hwc⟩ := open_int Try.underlying5 (hval 2 5 v2 rfl rfl) h2
  obtain ⟨rfl, rfl⟩ := trodVars_none hV
  have hc : 0 ≤ c ∧ c ≤ 255 := by
    have h := hwc
    simp only [Lit.wf, decide_eq_true_eq, Bool.and_eq_true] at h
    exact h
  refine (alone_any W a b c hc.1 hc.2).mono fun e W' ⟨he, hw⟩ => ?_
  subst he
  exact ⟨_, rfl, post_of_below (pa := []) (pv := []) hW' (fun b sp hd => true_trod Try.underlying4 b sp hd) (fun _ _ => trodAll_mk3 (shut_int Try.underlying3 hwa) (shut_int Try.underlying3 hwb) (shut_int Try.underlying5 hwc)) (fun _ _ => rfl) rfl (kept_of_below hw _)⟩

theorem raftAlone_holds : Rows.RaftAloneSaid :=
  OpenClaim.holds_of_wide 3 Try.f3 rfl rfl rfl rfl rfl rfl rfl ⟨rfl, rfl, rfl, rfl, rfl⟩ rfl rfl rfl rfl rfl (by kernel_rfl) Try.func3 (by kernel_rfl)
    (of_decide_eq_true (by kernel_rfl)) (by unfold Func.isWrapper; first | (rw [if_pos (by decide +kernel)]; kernel_rfl) | (rw [if_neg (by decide +kernel)]; exact ⟨rfl, rfl⟩))
    (fun os started H enc _ => raftAlone_lifted os started H enc)
end Go.Proofs.Ytcdegmbabbgiaaa
