/-
  HistoryRuns: whatever the order, the call returns true and turns nothing. The code is run over the abstract machine of the Am texts, by the kernel; no condition.
-/
import Derived.Test.YtdjgnfkoilaejaaGreatRows
import Derived.Test.YtdjgnfkoilaejaaGreatAmRow
namespace Go.Proofs.YtdjgnfkoilaejaaGreat
open Go.ChangeShapes Go.WideShapes Go.ChangeAt Go.RowKit Go.AM

theorem Tryz.own : ownKnob Tryz.prog.godebug = none := by kernel_rfl
theorem Tryz.laidOut : laidOutB Tryz.prog = true := by kernel_rfl

set_option maxRecDepth 100000
def historyRunsTab : PlTab := [
  (5, []),
  (8, []),
  (9, []),
  (11, []),
  (18, []),
  (19, [(9, [(0,[]),(1,[]),(2,[]),(3,[]),(4,[]),(5,[]),(6,[]),(7,[]),(8,[]),(9,[]),(10,[1]),(11,[]),(12,[]),(13,[]),(14,[])])]),
  (20, [(3, [(0,[]),(1,[0]),(2,[]),(3,[])]), (5, [(0,[]),(1,[0]),(2,[]),(3,[])]), (10, [(0,[]),(1,[]),(2,[0]),(3,[]),(4,[])]), (12, [(0,[]),(1,[]),(2,[1]),(3,[])]), (17, [(0,[]),(1,[]),(2,[1]),(3,[])])]),
  (21, []),
  (22, []),
  (23, []),
  (24, []),
  (25, []),
  (26, []),
  (27, []),
  (28, [(1, [(0,[]),(1,[]),(2,[]),(3,[]),(4,[]),(5,[]),(6,[]),(7,[]),(8,[]),(9,[]),(10,[]),(11,[]),(12,[]),(13,[]),(14,[]),(15,[]),(16,[]),(17,[]),(18,[]),(19,[]),(20,[]),(21,[]),(22,[]),(23,[]),(24,[]),(25,[]),(26,[]),(27,[]),(28,[]),(29,[]),(30,[25]),(31,[]),(32,[]),(33,[])])]),
  (29, [(1, [(0,[]),(1,[]),(2,[]),(3,[]),(4,[]),(5,[]),(6,[]),(7,[]),(9,[]),(8,[9]),(10,[]),(11,[]),(12,[]),(13,[])])]),
  (31, []),
  (32, []),
  (33, []),
  (34, [(2, [(0,[]),(1,[0]),(2,[]),(3,[])]), (5, [(0,[]),(1,[]),(2,[0]),(3,[]),(4,[])]), (9, [(0,[]),(1,[]),(2,[1]),(3,[])])]),
  (35, []),
  (36, []),
  (37, [(8, [(0,[]),(1,[]),(2,[]),(3,[]),(4,[]),(5,[]),(6,[]),(7,[]),(8,[5]),(9,[]),(10,[]),(11,[])])]),
  (38, []),
  (39, []),
  (40, []),
  (41, []),
  (42, []),
  (43, []),
  (44, []),
  (45, []),
  (46, []),
  (47, []),
  (48, []),
  (49, []),
  (50, []),
  (53, []),
  (54, []),
  (55, []),
  (56, []),
  (57, []),
  (58, []),
  (59, []),
  (60, []),
  (61, [(17, [(0,[]),(2,[]),(3,[]),(1,[3]),(4,[]),(5,[]),(6,[]),(7,[])])]),
  (62, []),
  (63, []),
  (64, []),
  (65, []),
  (66, []),
  (67, []),
  (68, []),
  (69, []),
  (70, [(5, [(0,[]),(1,[]),(2,[]),(5,[]),(6,[]),(7,[]),(3,[]),(4,[7]),(8,[]),(9,[]),(10,[]),(11,[])])]),
  (71, []),
  (72, []),
  (73, []),
  (74, []),
  (75, []),
  (76, []),
  (78, []),
  (79, []),
  (82, [(7, [(0,[]),(1,[]),(3,[]),(4,[]),(6,[]),(2,[4]),(5,[]),(7,[]),(8,[]),(9,[]),(10,[])])]),
  (84, []),
  (85, []),
  (86, []),
  (88, []),
  (89, []),
  (91, []),
  (92, []),
  (93, []),
  (94, []),
  (95, []),
  (96, []),
  (97, []),
  (98, []),
  (102, []),
  (103, []),
  (104, []),
  (107, []),
  (112, []),
  (113, []),
  (114, []),
  (115, []),
  (119, [(9, [(0,[]),(1,[]),(2,[]),(3,[]),(4,[]),(5,[]),(6,[3,1]),(7,[]),(8,[]),(9,[]),(10,[])])]),
  (120, [(5, [(0,[]),(1,[]),(2,[]),(3,[]),(4,[]),(5,[3]),(6,[]),(7,[])]), (14, [(0,[]),(1,[]),(2,[]),(3,[]),(4,[]),(5,[]),(6,[]),(7,[]),(8,[]),(10,[]),(9,[5,2]),(11,[5]),(12,[]),(13,[]),(14,[]),(15,[])]), (17, [(0,[]),(1,[]),(2,[]),(3,[]),(4,[]),(5,[]),(6,[]),(7,[5,3]),(8,[]),(9,[5]),(10,[]),(11,[])]), (24, [(0,[]),(1,[]),(2,[]),(3,[]),(4,[2]),(5,[])])]),
  (121, []),
  (122, []),
  (123, []),
  (127, []),
  (128, []),
  (131, []),
  (132, []),
  (133, []),
  (134, []),
  (135, []),
  (139, []),
  (140, []),
  (143, []),
  (161, []),
  (162, []),
  (163, []),
  (164, []),
  (165, []),
  (166, []),
  (167, []),
  (168, [])]
def historyRunsTabSp : SpTab := [(77, .ins 39), (83, .ins 40), (87, .ins 37), (90, .ins 36), (129, .ins 60)]
theorem historyRunsTabSp77 : SpecOK Tryz.prog 77 ((Sp.ins 39).run Tryz.prog) :=
  spec_insert (e := 84) (I := 3) (B := 4) (ov := 99) (rr := 100) (fn := Tryz.f77) (insAt_of (fo := Tryz.f99) (by kernel_rfl) (by kernel_rfl) (by kernel_rfl) (by kernel_rfl) (by kernel_rfl)
    (by kernel_rfl) (by kernel_rfl) (by kernel_rfl) (by kernel_rfl) (by kernel_rfl) (by kernel_rfl) (by kernel_rfl) (by kernel_rfl) (by kernel_rfl) (by kernel_rfl) (by kernel_rfl) (by kernel_rfl)) (by kernel_rfl)
theorem historyRunsTabSp83 : SpecOK Tryz.prog 83 ((Sp.ins 40).run Tryz.prog) :=
  spec_insert (e := 107) (I := 3) (B := 4) (ov := 105) (rr := 106) (fn := Tryz.f83) (insAt_of (fo := Tryz.f105) (by kernel_rfl) (by kernel_rfl) (by kernel_rfl) (by kernel_rfl) (by kernel_rfl)
    (by kernel_rfl) (by kernel_rfl) (by kernel_rfl) (by kernel_rfl) (by kernel_rfl) (by kernel_rfl) (by kernel_rfl) (by kernel_rfl) (by kernel_rfl) (by kernel_rfl) (by kernel_rfl) (by kernel_rfl)) (by kernel_rfl)
theorem historyRunsTabSp87 : SpecOK Tryz.prog 87 ((Sp.ins 37).run Tryz.prog) :=
  spec_insert (e := 103) (I := 3) (B := 4) (ov := 108) (rr := 109) (fn := Tryz.f87) (insAt_of (fo := Tryz.f108) (by kernel_rfl) (by kernel_rfl) (by kernel_rfl) (by kernel_rfl) (by kernel_rfl)
    (by kernel_rfl) (by kernel_rfl) (by kernel_rfl) (by kernel_rfl) (by kernel_rfl) (by kernel_rfl) (by kernel_rfl) (by kernel_rfl) (by kernel_rfl) (by kernel_rfl) (by kernel_rfl) (by kernel_rfl)) (by kernel_rfl)
theorem historyRunsTabSp90 : SpecOK Tryz.prog 90 ((Sp.ins 36).run Tryz.prog) :=
  spec_insert (e := 25) (I := 3) (B := 4) (ov := 110) (rr := 111) (fn := Tryz.f90) (insAt_of (fo := Tryz.f110) (by kernel_rfl) (by kernel_rfl) (by kernel_rfl) (by kernel_rfl) (by kernel_rfl)
    (by kernel_rfl) (by kernel_rfl) (by kernel_rfl) (by kernel_rfl) (by kernel_rfl) (by kernel_rfl) (by kernel_rfl) (by kernel_rfl) (by kernel_rfl) (by kernel_rfl) (by kernel_rfl) (by kernel_rfl)) (by kernel_rfl)
theorem historyRunsTabSp129 : SpecOK Tryz.prog 129 ((Sp.ins 60).run Tryz.prog) :=
  spec_insert (e := 87) (I := 3) (B := 4) (ov := 141) (rr := 142) (fn := Tryz.f129) (insAt_of (fo := Tryz.f141) (by kernel_rfl) (by kernel_rfl) (by kernel_rfl) (by kernel_rfl) (by kernel_rfl)
    (by kernel_rfl) (by kernel_rfl) (by kernel_rfl) (by kernel_rfl) (by kernel_rfl) (by kernel_rfl) (by kernel_rfl) (by kernel_rfl) (by kernel_rfl) (by kernel_rfl) (by kernel_rfl) (by kernel_rfl)) (by kernel_rfl)
theorem historyRunsTabSp_ok : SpAll Tryz.prog historyRunsTabSp := ⟨historyRunsTabSp77, historyRunsTabSp83, historyRunsTabSp87, historyRunsTabSp90, historyRunsTabSp129, trivial⟩

theorem historyRunsTab_ok : tabOK Tryz.prog historyRunsTab = true := by kernel_rfl
theorem historyRuns_true : saysTrue (callF Tryz.prog (plansOf Tryz.prog historyRunsTabSp historyRunsTab) 1000 5 [] St.empty) = true := by kernel_rfl
theorem historyRuns_any (W : World) : Calls Tryz.prog 5 #[] W fun e W' => e = .returned (.bool true) ∧ Below W.heap.size W W' :=
  calls_true (plansOK_of (by kernel_rfl) historyRunsTabSp_ok historyRunsTab_ok) historyRuns_true W

theorem historyRuns_lifted (os : Os) (started : os.Started) (H : Type) (enc : TypeId × Value → H) :
    ReturnsInHanded {} Tryz.checked os 5 .any (Rows.historyRunsSpec.pre6 enc Tryz.prog Tryz.f5 Rows.historyRunsRow.domain false) (Rows.historyRunsSpec.post enc Tryz.prog Tryz.f5 false true false false) := by
  refine returnsInHanded_of_change (C := Tryz.checked) Tryz.own started (by kernel_rfl) Tryz.func5
    (ChangeSpec.witness6 (enc := enc) (C := Tryz.checked) false ⟨#[], #[], []⟩ 8 (by kernel_rfl) (by kernel_rfl) (by kernel_rfl) (by kernel_rfl)) ?_
  intro W base args ds gs before _ hW _ _
  have hW' := hW
  obtain ⟨p, q, hA0, hV, rfl, _, _⟩ := hW
  have hA : DataW.TrodAll enc Tryz.prog W 0 (fun _ => true) true Tryz.f5.params.toList args.toList ds p := hA0
  rw [Tryz.params5] at hA
  obtain ⟨rfl, rfl, rfl⟩ := trodAll_none hA
  obtain ⟨rfl, rfl⟩ := trodVars_none hV
  simp only [List.append_nil] at hW'
  refine (historyRuns_any W).mono fun e W' ⟨he, hw⟩ => ?_
  subst he
  exact ⟨_, rfl, post_of_below (pa := []) (pv := []) hW' (fun b sp hd => true_trod Tryz.underlying4 b sp hd) (fun _ _ => trodAll_mk0) (fun _ _ => rfl) rfl (kept_of_below hw _)⟩

theorem historyRuns_holds : Rows.HistoryRunsSaid :=
  OpenClaim.holds_of_wide 5 Tryz.f5 rfl rfl rfl rfl rfl rfl rfl ⟨rfl, rfl, rfl, rfl, rfl⟩ rfl rfl rfl rfl rfl (by kernel_rfl) Tryz.func5 (by kernel_rfl)
    (of_decide_eq_true (by kernel_rfl)) (by unfold Func.isWrapper; first | (rw [if_pos (by decide +kernel)]; kernel_rfl) | (rw [if_neg (by decide +kernel)]; exact ⟨rfl, rfl⟩))
    (fun os started H enc _ => historyRuns_lifted os started H enc)
end Go.Proofs.YtdjgnfkoilaejaaGreat
