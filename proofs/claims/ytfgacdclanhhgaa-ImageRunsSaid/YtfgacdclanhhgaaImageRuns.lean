/-
  ImageRuns: whatever the order, the call returns true and turns nothing. The code is run over the abstract machine of the Am texts, by the kernel; no condition.
-/
import Derived.Test.YtfgacdclanhhgaaRows
import Derived.Test.YtfgacdclanhhgaaAmRow
namespace Go.Proofs.Ytfgacdclanhhgaa
open Go.ChangeShapes Go.WideShapes Go.ChangeAt Go.RowKit Go.AM

theorem Try.own : ownKnob Try.prog.godebug = none := by kernel_rfl
theorem Try.laidOut : laidOutB Try.prog = true := by kernel_rfl

set_option maxRecDepth 100000
def imageRunsTab : PlTab := [
  (3, [(6, [(0,[]),(1,[]),(2,[]),(3,[]),(4,[]),(5,[]),(6,[]),(7,[]),(8,[]),(9,[8]),(10,[]),(11,[]),(12,[]),(13,[]),(14,[]),(15,[]),(16,[]),(17,[]),(18,[]),(19,[]),(20,[]),(21,[]),(22,[]),(23,[]),(24,[])])]),
  (4, []),
  (5, []),
  (6, []),
  (7, []),
  (8, []),
  (9, []),
  (10, []),
  (11, []),
  (12, []),
  (13, []),
  (14, []),
  (15, []),
  (16, []),
  (17, []),
  (18, []),
  (19, []),
  (20, []),
  (21, []),
  (22, []),
  (23, []),
  (24, []),
  (25, []),
  (26, []),
  (27, []),
  (28, []),
  (29, []),
  (30, []),
  (31, []),
  (32, []),
  (33, []),
  (34, []),
  (35, []),
  (36, []),
  (37, []),
  (38, []),
  (39, []),
  (40, []),
  (41, []),
  (42, []),
  (43, []),
  (44, []),
  (45, []),
  (46, []),
  (47, []),
  (48, []),
  (49, []),
  (50, []),
  (51, []),
  (52, [(10, [(0,[]),(1,[]),(2,[]),(3,[]),(4,[]),(7,[]),(8,[]),(9,[]),(10,[]),(11,[]),(5,[]),(6,[11]),(12,[]),(13,[]),(14,[]),(15,[])])]),
  (53, []),
  (54, []),
  (55, []),
  (56, []),
  (57, []),
  (58, []),
  (59, []),
  (60, []),
  (61, []),
  (62, [(1, [(0,[]),(1,[]),(2,[]),(3,[]),(4,[]),(5,[]),(6,[]),(7,[]),(8,[]),(9,[]),(10,[]),(11,[]),(12,[]),(13,[]),(14,[]),(15,[]),(16,[]),(17,[]),(18,[]),(19,[]),(20,[]),(21,[]),(22,[]),(23,[]),(24,[]),(25,[]),(26,[]),(27,[]),(28,[]),(29,[]),(30,[25]),(31,[]),(32,[]),(33,[])])]),
  (63, []),
  (64, []),
  (65, []),
  (66, []),
  (67, []),
  (68, []),
  (69, []),
  (70, []),
  (71, []),
  (72, []),
  (73, []),
  (74, []),
  (75, []),
  (76, [(1, [(0,[]),(1,[]),(2,[]),(3,[]),(4,[]),(5,[]),(6,[]),(7,[]),(9,[]),(8,[9]),(10,[]),(11,[]),(12,[]),(13,[])])]),
  (77, []),
  (78, []),
  (79, [(5, [(0,[]),(1,[]),(2,[]),(5,[]),(6,[]),(7,[]),(3,[]),(4,[7]),(8,[]),(9,[]),(10,[]),(11,[])])]),
  (80, []),
  (81, []),
  (82, []),
  (83, []),
  (86, []),
  (87, []),
  (88, []),
  (89, []),
  (90, []),
  (91, []),
  (92, []),
  (93, [])]

theorem imageRunsTab_ok : tabOK Try.prog imageRunsTab = true := by kernel_rfl
theorem imageRuns_true : saysTrue (callF Try.prog (plansOf imageRunsTab) 1000 3 [] St.empty) = true := by kernel_rfl
theorem imageRuns_any (W : World) : Calls Try.prog 3 #[] W fun e W' => e = .returned (.bool true) ∧ Below W.heap.size W W' :=
  calls_true (plansOK_of (by kernel_rfl) imageRunsTab_ok) imageRuns_true W

theorem imageRuns_lifted (os : Os) (started : os.Started) (H : Type) (enc : TypeId × Value → H) :
    ReturnsInHanded {} Try.checked os 3 .any (Rows.imageRunsSpec.pre6 enc Try.prog Try.f3 Rows.imageRunsRow.domain false) (Rows.imageRunsSpec.post enc Try.prog Try.f3 false true false false) := by
  refine returnsInHanded_of_change (C := Try.checked) Try.own started (by kernel_rfl) Try.func3
    (ChangeSpec.witness6 (enc := enc) (C := Try.checked) false ⟨#[], #[], []⟩ 8 (by kernel_rfl) (by kernel_rfl) (by kernel_rfl) (by kernel_rfl)) ?_
  intro W base args ds gs before _ hW _ _
  have hW' := hW
  obtain ⟨p, q, hA0, hV, rfl, _, _⟩ := hW
  have hA : DataW.TrodAll enc Try.prog W 0 (fun _ => true) true Try.f3.params.toList args.toList ds p := hA0
  rw [Try.params3] at hA
  obtain ⟨rfl, rfl, rfl⟩ := trodAll_none hA
  obtain ⟨rfl, rfl⟩ := trodVars_none hV
  simp only [List.append_nil] at hW'
  refine (imageRuns_any W).mono fun e W' ⟨he, hw⟩ => ?_
  subst he
  exact ⟨_, rfl, post_of_below (pa := []) (pv := []) hW' (fun b sp hd => true_trod Try.underlying4 b sp hd) (fun _ _ => trodAll_mk0) (fun _ _ => rfl) rfl (kept_of_below hw _)⟩

theorem imageRuns_holds : Rows.ImageRunsSaid :=
  OpenClaim.holds_of_wide 3 Try.f3 rfl rfl rfl rfl rfl rfl rfl ⟨rfl, rfl, rfl, rfl, rfl⟩ rfl rfl rfl rfl rfl (by kernel_rfl) Try.func3 (by kernel_rfl)
    (of_decide_eq_true (by kernel_rfl)) (by unfold Func.isWrapper; first | (rw [if_pos (by decide +kernel)]; kernel_rfl) | (rw [if_neg (by decide +kernel)]; exact ⟨rfl, rfl⟩))
    (fun os started H enc _ => imageRuns_lifted os started H enc)
end Go.Proofs.Ytfgacdclanhhgaa
